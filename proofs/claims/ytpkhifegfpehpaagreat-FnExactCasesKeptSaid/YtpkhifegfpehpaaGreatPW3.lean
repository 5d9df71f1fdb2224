/- Cases and uses of a world. -/
import Derived.Test.YtpkhifegfpehpaaGreatPW2
namespace Go.Proofs.YtpkhifegfpehpaaGreat.Eng
open Go.RowKit
set_option linter.unusedVariables false
set_option linter.unusedSimpArgs false
set_option maxRecDepth 100000
/-- An entry tells of a use. -/
def answers (u e : List U) : Bool := decide ((e.getD 6 U0).toInt = 1) && (decide ((e.getD 4 U0).toInt = (u.getD 0 U0).toInt) && (decide ((e.getD 5 U0).toInt = (u.getD 2 U0).toInt) && decide ((e.getD 1 U0).toInt = (u.getD 3 U0).toInt)))
theorem any_flat (ts : List (List U)) (q : List U → Bool) : ((List.range ts.length).any fun i => ((ts.getD i []).getD 0 U0).toLst.any q) = (flat ts).any q := by
  rw [range_any ts [] fun x => (x.getD 0 U0).toLst.any q, flat, List.any_flatMap]
theorem s_entry (a0 : Int) (a1 a2 a3 a4 : List (List U)) (a5 : Int) (a6 a7 a8 a9 : List (List U)) (a10 : Int) (a11 a12 a13 a14 a15 a16 : List (List U)) (a17 : Int) (a18 a19 : List (List U)) (u : List U) (h : WR tabs.ct 109 a9) (hc : cntRs a9 ≤ 1048576) : spec_l39Entry.c dn a0 a1 a2 a3 a4 a5 a6 a7 a8 a9 a10 a11 a12 a13 a14 a15 a16 a17 a18 a19 (u.getD 0 U0).toInt (u.getD 1 U0).toInt (u.getD 2 U0).toInt (u.getD 3 U0).toInt = rB ((entries a9 1).any (answers u)) := by
  have hl := cntRs_length a9
  rw [spec_l39Entry.eq fix]
  refine (any_loop3 (l0 := fun i => spec_l39Entry.l0 dn iterJ i a0 a1 a2 a3 a4 a5 a6 a7 a8 a9 a10 a11 a12 a13 a14 a15 a16 a17 a18 a19 (u.getD 0 U0).toInt (u.getD 1 U0).toInt (u.getD 2 U0).toInt (u.getD 3 U0).toInt) (n := a9.length) (p := fun i => ((a9.getD i []).getD 0 U0).toLst.any fun e => decide (v0 e = 1) && answers u e) (R := rB false) (F := rB true) ?_ fun i hi => ?_).trans ?_
  · rw [spec_l39Entry.l0_eq fix, not_lt_nat (Nat.le_refl _)]; rfl
  · obtain ⟨l, hrow, hw⟩ := row109 (h.2 _ (getD_mem hi (z := [])))
    have h1 := trail_le hi hrow
    have h2 := cntRs_length l
    rw [spec_l39Entry.l0_eq fix, lt_nat hi, hrow]
    refine (any_loop3 (l0 := fun j => spec_l39Entry.l1 dn iterJ i j a0 a1 a2 a3 a4 a5 a6 a7 a8 a9 a10 a11 a12 a13 a14 a15 a16 a17 a18 a19 (u.getD 0 U0).toInt (u.getD 1 U0).toInt (u.getD 2 U0).toInt (u.getD 3 U0).toInt) (n := l.length) (p := fun j => decide (v0 (l.getD j []) = 1) && answers u (l.getD j [])) (R := spec_l39Entry.l0 dn iterJ ((i + 1 : Nat) : Int) a0 a1 a2 a3 a4 a5 a6 a7 a8 a9 a10 a11 a12 a13 a14 a15 a16 a17 a18 a19 (u.getD 0 U0).toInt (u.getD 1 U0).toInt (u.getD 2 U0).toInt (u.getD 3 U0).toInt) (F := rB true) ?_ fun j hj => ?_).trans ?_
    · rw [spec_l39Entry.l1_eq fix, inRange_nat, decide_eq_true hi, Int.toNat_natCast, hrow]
      show (bif decide ((l.length : Int) < (l.length : Int)) then _ else _) = _
      rw [not_lt_nat (Nat.le_refl _), wrap_nat (n := i) (by omega)]; rfl
    · rw [spec_l39Entry.l1_eq fix, inRange_nat, decide_eq_true hi, Int.toNat_natCast, hrow]
      show (bif decide ((j : Int) < (l.length : Int)) then bif inRange (j : Int) l.length then _ else _ else _) = _
      rw [lt_nat hj, inRange_nat, decide_eq_true hj, wrap_nat (n := j) (by omega)]
      show (bif decide (v0 (l.getD j []) = 1) then bif decide (((l.getD j []).getD 6 U0).toInt = 1) then bif decide (((l.getD j []).getD 4 U0).toInt = _) then bif decide (((l.getD j []).getD 5 U0).toInt = _) then bif decide (((l.getD j []).getD 1 U0).toInt = _) then _ else _ else _ else _ else _ else _) = _
      unfold answers
      cases decide (v0 (l.getD j []) = 1)
      · rfl
      cases decide (((l.getD j []).getD 6 U0).toInt = 1)
      · rfl
      cases decide (((l.getD j []).getD 4 U0).toInt = (u.getD 0 U0).toInt)
      · rfl
      cases decide (((l.getD j []).getD 5 U0).toInt = (u.getD 2 U0).toInt)
      · rfl
      cases decide (((l.getD j []).getD 1 U0).toInt = (u.getD 3 U0).toInt) <;> rfl
    · rw [range_any l [] fun e => decide (v0 e = 1) && answers u e]; rfl
  · rw [any_flat]
    unfold entries
    rw [List.any_filter]
    cases (flat a9).any _ <;> rfl
theorem i_answered (es : List (List U)) (hes : es.length ≤ 1048576) (u : List U) : slices_ContainsFunc_3.c dn es (u.getD 0 U0).toInt (u.getD 1 U0).toInt (u.getD 2 U0).toInt (u.getD 3 U0).toInt = rB (es.any (answers u)) := by
  have : slices_IndexFunc_5.c dn es (u.getD 0 U0).toInt (u.getD 1 U0).toInt (u.getD 2 U0).toInt (u.getD 3 U0).toInt = rI (pos (fun i => answers u (es.getD i [])) es.length 0) := by
    rw [slices_IndexFunc_5.eq fix]
    refine find_loop (l0 := fun i => slices_IndexFunc_5.l0 dn iterJ es (u.getD 0 U0).toInt (u.getD 1 U0).toInt (u.getD 2 U0).toInt (u.getD 3 U0).toInt _ i) (n := es.length) (p := fun i => answers u (es.getD i [])) ?_ fun i hi => ?_
    · rw [slices_IndexFunc_5.l0_eq fix, not_lt_nat (Nat.le_refl _)]; rfl
    · rw [slices_IndexFunc_5.l0_eq fix, lt_nat hi, inRange_nat, decide_eq_true hi, wrap_nat (by omega), impl_UsesKept_1_1.eq fix, Int.toNat_natCast]
      unfold answers
      cases decide (((es.getD i []).getD 6 U0).toInt = 1)
      · rfl
      cases decide (((es.getD i []).getD 4 U0).toInt = (u.getD 0 U0).toInt)
      · rfl
      cases decide (((es.getD i []).getD 5 U0).toInt = (u.getD 2 U0).toInt) <;> rfl
  rw [slices_ContainsFunc_3.eq fix, this]
  show rB (decide (pos _ _ _ ≥ 0)) = _
  rw [any_pos (answers u)]
theorem i_uses (us es : List (List U)) (hus : us.length ≤ 1048576) (hes : es.length ≤ 1048576) : slices_ContainsFunc_1.c dn us es = rB (us.any fun u => !(es.any (answers u))) := by
  have : slices_IndexFunc_2.c dn us es = rI (pos (fun i => !(es.any (answers (us.getD i [])))) us.length 0) := by
    rw [slices_IndexFunc_2.eq fix]
    refine find_loop (l0 := fun i => slices_IndexFunc_2.l0 dn iterJ us es _ i) (n := us.length) (p := fun i => !(es.any (answers (us.getD i [])))) ?_ fun i hi => ?_
    · rw [slices_IndexFunc_2.l0_eq fix, not_lt_nat (Nat.le_refl _)]; rfl
    · rw [slices_IndexFunc_2.l0_eq fix, lt_nat hi, inRange_nat, decide_eq_true hi, wrap_nat (by omega), impl_UsesKept_1.eq fix, Int.toNat_natCast, i_answered _ hes]
      cases es.any (answers (us.getD i [])) <;> rfl
  rw [slices_ContainsFunc_1.eq fix, this]
  show rB (decide (pos _ _ _ ≥ 0)) = _
  rw [any_pos fun u => !(es.any (answers u))]
/-- An entry of an emergency stands for a case. -/
def caseOf (cs : List (List U)) (e : List U) : List U := cs.getD ((e.getD 3 U0).toInt - 1).toNat []
def used (os : List (List U)) (x e : List U) : Bool := decide ((e.getD 4 U0).toInt = (x.getD 1 U0).toInt) && (has os (e.getD 5 U0).toInt && isWithin (x.getD 2 U0).toInt (x.getD 3 U0).toInt (e.getD 1 U0).toInt)
def caseOk (os cs : List (List U)) (e : List U) : Bool := within (e.getD 3 U0).toInt 1 cs.length && used os (caseOf cs e) e
theorem serial_at {cs : List (List U)} (hc : cs.length ≤ 1048576) {v : Int} (h : within v 1 cs.length = true) : ∃ k : Nat, v = ((k + 1 : Nat) : Int) ∧ k < cs.length ∧ IntKind.i64.wrap (v - 1) = (k : Int) ∧ (v - 1).toNat = k := by
  obtain ⟨h1, h2⟩ := within_inv h
  exact ⟨(v - 1).toNat, by omega, by omega, by rw [wrap_id (by omega) (by omega)]; omega, rfl⟩
theorem s_case (a0 : Int) (a1 a2 a3 a4 : List (List U)) (a5 : Int) (a6 a7 a8 a9 : List (List U)) (a10 : Int) (a11 a12 a13 a14 a15 a16 : List (List U)) (a17 : Int) (a18 a19 : List (List U)) (e : List U) (ho : a16.length ≤ 1048576) (hc : a18.length ≤ 1048576) : spec_l39Case.c dn a0 a1 a2 a3 a4 a5 a6 a7 a8 a9 a10 a11 a12 a13 a14 a15 a16 a17 a18 a19 (e.getD 0 U0).toInt (e.getD 1 U0).toInt (e.getD 2 U0).toInt (e.getD 3 U0).toInt (e.getD 4 U0).toInt (e.getD 5 U0).toInt (e.getD 6 U0).toInt (e.getD 7 U0).toInt (e.getD 8 U0).toInt = rB (caseOk a16 a18 e) := by
  rw [spec_l39Case.eq fix, s_in, s_has _ (by omega)]
  unfold caseOk
  cases hw : within (e.getD 3 U0).toInt 1 a18.length
  · rfl
  · obtain ⟨k, h1, h2, h3, h4⟩ := serial_at hc hw
    simp only [Option.bind_some, Ret.u_mk, List.getD_cons_zero, U.toBool_bool, Bool.not_true, cond_false, h3, inRange_nat, decide_eq_true h2, cond_true, Int.toNat_natCast]
    unfold used caseOf
    rw [h4, s_within]
    cases decide ((e.getD 4 U0).toInt = ((a18.getD k []).getD 1 U0).toInt)
    · rfl
    cases has a16 (e.getD 5 U0).toInt <;> rfl
theorem i_used (a0 : Int) (a1 a2 a3 a4 : List (List U)) (a5 : Int) (a6 a7 a8 a9 : List (List U)) (a10 : Int) (a11 a12 a13 a14 a15 a16 : List (List U)) (a17 : Int) (a18 a19 : List (List U)) (x e : List U) (ho : a16.length ≤ 1048576) : impl_isUsed.c dn a0 a1 a2 a3 a4 a5 a6 a7 a8 a9 a10 a11 a12 a13 a14 a15 a16 a17 a18 a19 (x.getD 0 U0).toInt (x.getD 1 U0).toInt (x.getD 2 U0).toInt (x.getD 3 U0).toInt (x.getD 4 U0).toLst (x.getD 5 U0).toBool (e.getD 0 U0).toInt (e.getD 1 U0).toInt (e.getD 2 U0).toInt (e.getD 3 U0).toInt (e.getD 4 U0).toInt (e.getD 5 U0).toInt (e.getD 6 U0).toInt (e.getD 7 U0).toInt (e.getD 8 U0).toInt = rB (used a16 x e) := by
  rw [impl_isUsed.eq fix, i_has _ (by omega)]
  unfold used
  cases decide ((e.getD 4 U0).toInt = (x.getD 1 U0).toInt)
  · rfl
  simp only [Option.bind_some, Ret.u_mk, List.getD_cons_zero, U.toBool_bool, cond_true, i_within]
  cases has a16 (e.getD 5 U0).toInt <;> rfl
/-- The counters, one step on. -/
def bump (s : List (List U)) (k : Nat) : List (List U) := setEl s k 0 [U.int (IntKind.i64.wrap (((s.getD k []).getD 0 U0).toInt + 1))]
def stI (os cs : List (List U)) (e : List U) (s : List (List U)) : Option (List (List U)) := bif caseOk os cs e then some (bump s ((e.getD 3 U0).toInt - 1).toNat) else none
def stS (os cs : List (List U)) (e : List U) (s : List (List U)) : Option (List (List U)) := bif !decide (v0 e = 2) then some s else bif caseOk os cs e then some (bump s (e.getD 3 U0).toInt.toNat) else none
def countsOk (cs s : List (List U)) : Bool := (List.range cs.length).all fun i => decide (((s.getD i []).getD 0 U0).toInt = (((cs.getD i []).getD 4 U0).toLst.length : Int))
theorem bump_cons (z : List U) (s : List (List U)) (k : Nat) : bump (z :: s) (k + 1) = z :: bump s k := rfl
theorem run_eq {os cs : List (List U)} (hc : cs.length ≤ 1048576) {RS RI : List (List U) → Option Ret} (hR : ∀ z s, RS (z :: s) = RI s) : ∀ (es : List (List U)) (z : List U) (s : List (List U)), runL (stS os cs) RS (rB false) es (z :: s) = runL (stI os cs) RI (rB false) (es.filter fun e => decide (v0 e = 2)) s
  | [], z, s => hR z s
  | e :: es, z, s => by
    rw [List.filter_cons, runL]
    unfold stS
    cases hk : decide (v0 e = 2)
    · rw [if_neg (by simp)]
      exact run_eq hc hR es z s
    · rw [if_pos rfl, runL]
      unfold stI
      cases ho : caseOk os cs e
      · rfl
      · have hw : within (e.getD 3 U0).toInt 1 cs.length = true := by unfold caseOk at ho; rw [Bool.and_eq_true] at ho; exact ho.1
        obtain ⟨k, h1, h2, h3, h4⟩ := serial_at hc hw
        have h5 : (e.getD 3 U0).toInt.toNat = k + 1 := by omega
        rw [h4, h5, bump_cons]
        exact run_eq hc hR es z (bump s k)
theorem bump_length (s : List (List U)) (k : Nat) : (bump s k).length = s.length := setEl_length ..
def casesKept (ts os cs : List (List U)) : Option Ret := runL (stI os cs) (fun s => rB (countsOk cs s)) (rB false) (entries ts 2) (List.replicate cs.length [U.int 0])
theorem i_cases (a0 : Int) (a1 a2 a3 a4 : List (List U)) (a5 : Int) (a6 a7 a8 a9 : List (List U)) (a10 : Int) (a11 a12 a13 a14 a15 a16 : List (List U)) (a17 : Int) (a18 a19 : List (List U)) (h : WR tabs.ct 109 a9) (hc : cntRs a9 ≤ 1048576) (ho : a16.length ≤ 1048576) (hcs : a18.length ≤ 1048576) : impl_CasesKept.c dn a0 a1 a2 a3 a4 a5 a6 a7 a8 a9 a10 a11 a12 a13 a14 a15 a16 a17 a18 a19 = casesKept a9 a16 a18 := by
  have hfl := flat_le a9
  have hel : (entries a9 2).length ≤ 1048576 := by unfold entries; have := List.length_filter_le (fun e => decide (v0 e = 2)) (flat a9); omega
  rw [impl_CasesKept.eq fix, i_entries _ _ _ _ _ _ _ _ _ _ _ _ _ _ _ _ _ _ _ _ _ h hc, Int.toNat_natCast, decide_eq_true (by omega), room_true (by omega) (by omega)]
  show impl_CasesKept.l0 dn iterJ ((entries a9 2).length : Int) 0 a0 a1 a2 a3 a4 a5 a6 a7 a8 a9 a10 a11 a12 a13 a14 a15 a16 a17 a18 a19 (List.replicate a18.length [U.int 0]) (entries a9 2) = _
  unfold casesKept
  generalize entries a9 2 = es at hel
  have := runThru (l1 := fun i s => impl_CasesKept.l0 dn iterJ (es.length : Int) i a0 a1 a2 a3 a4 a5 a6 a7 a8 a9 a10 a11 a12 a13 a14 a15 a16 a17 a18 a19 s es) (st := stI a16 a18) (R := fun s => rB (countsOk a18 s)) (F := rB false) (I := fun s => s.length = a18.length) (l := es) (rest := []) (fun e s s' hs he => ?_) (fun s hs => ?_) (fun i hi s hs => ?_) (List.replicate a18.length [U.int 0]) (by simp)
  · rw [List.append_nil] at this; exact this
  · unfold stI at he
    cases hok : caseOk a16 a18 e
    · rw [hok] at he; cases he
    · rw [hok] at he; cases he; rw [bump_length]; exact hs
  · rw [impl_CasesKept.l0_eq fix, not_lt_nat (Nat.le_refl _)]
    refine (all_loop2 (l0 := fun i => impl_CasesKept.l1 dn iterJ a18 _ i s) (n := a18.length) (p := fun i => decide (((s.getD i []).getD 0 U0).toInt = (((a18.getD i []).getD 4 U0).toLst.length : Int))) (b := true) ?_ fun i hi => ?_).trans (by rw [Bool.and_true]; rfl)
    · rw [impl_CasesKept.l1_eq fix, not_lt_nat (Nat.le_refl _)]; rfl
    · rw [impl_CasesKept.l1_eq fix, lt_nat hi, inRange_nat, inRange_nat, decide_eq_true hi, decide_eq_true (by omega), wrap_nat (n := i) (by omega), Int.toNat_natCast]
      cases decide (((s.getD i []).getD 0 U0).toInt = (((a18.getD i []).getD 4 U0).toLst.length : Int)) <;> rfl
  · rw [impl_CasesKept.l0_eq fix, lt_nat hi, inRange_nat, decide_eq_true hi, wrap_nat (n := i) (by omega), Int.toNat_natCast, i_in]
    unfold stI caseOk
    cases hw : within ((es.getD i []).getD 3 U0).toInt 1 a18.length
    · rfl
    · obtain ⟨k, h1, h2, h3, h4⟩ := serial_at hcs hw
      simp only [Option.bind_some, Ret.u_mk, List.getD_cons_zero, U.toBool_bool, Bool.not_true, cond_false, h3, inRange_nat, decide_eq_true h2, cond_true, Int.toNat_natCast, Bool.true_and, decide_eq_true (show k < s.length by omega)]
      rw [i_used _ _ _ _ _ _ _ _ _ _ _ _ _ _ _ _ _ _ _ _ _ _ ho]
      unfold caseOf
      rw [h4]
      cases used a16 (a18.getD k []) (es.getD i []) <;> rfl
theorem s_cases (a0 : Int) (a1 a2 a3 a4 : List (List U)) (a5 : Int) (a6 a7 a8 a9 : List (List U)) (a10 : Int) (a11 a12 a13 a14 a15 a16 : List (List U)) (a17 : Int) (a18 a19 : List (List U)) (h : WR tabs.ct 109 a9) (hc : cntRs a9 ≤ 1048576) (ho : a16.length ≤ 1048576) (hcs : a18.length ≤ 1048576) : spec_CasesKept.c dn a0 a1 a2 a3 a4 a5 a6 a7 a8 a9 a10 a11 a12 a13 a14 a15 a16 a17 a18 a19 = casesKept a9 a16 a18 := by
  have hl := cntRs_length a9
  have e1 : IntKind.i64.wrap ((a18.length : Int) + 1) = ((a18.length + 1 : Nat) : Int) := wrap_nat (by omega)
  rw [spec_CasesKept.eq fix, e1, Int.toNat_natCast, decide_eq_true (by omega), room_true (by omega) (by omega)]
  show spec_CasesKept.l0 dn iterJ 0 a0 a1 a2 a3 a4 a5 a6 a7 a8 a9 a10 a11 a12 a13 a14 a15 a16 a17 a18 a19 (List.replicate (a18.length + 1) [U.int 0]) = _
  have e2 : casesKept a9 a16 a18 = runL (stS a16 a18) (fun s => rB (countsOk a18 s.tail)) (rB false) (flat a9) ([U.int 0] :: List.replicate a18.length [U.int 0]) := (run_eq hcs (fun z s => rfl) _ _ _).symm
  rw [e2, ← List.replicate_succ]
  refine run_out (l0 := fun i s => spec_CasesKept.l0 dn iterJ i a0 a1 a2 a3 a4 a5 a6 a7 a8 a9 a10 a11 a12 a13 a14 a15 a16 a17 a18 a19 s) (st := stS a16 a18) (R := fun s => rB (countsOk a18 s.tail)) (F := rB false) (I := fun s => s.length = a18.length + 1) (ts := a9) (f := fun x => (x.getD 0 U0).toLst) (fun s hs => ?_) (fun i hi ih s hs => ?_) _ (by simp)
  · rw [spec_CasesKept.l0_eq fix, not_lt_nat (Nat.le_refl _)]
    refine (all_loop2 (l0 := fun i => spec_CasesKept.l2 dn iterJ i a0 a1 a2 a3 a4 a5 a6 a7 a8 a9 a10 a11 a12 a13 a14 a15 a16 a17 a18 a19 s) (n := a18.length) (p := fun i => decide (((s.tail.getD i []).getD 0 U0).toInt = (((a18.getD i []).getD 4 U0).toLst.length : Int))) (b := true) ?_ fun i hi => ?_).trans (by rw [Bool.and_true]; rfl)
    · rw [spec_CasesKept.l2_eq fix, not_lt_nat (Nat.le_refl _)]; rfl
    · have e3 : s.tail.getD i [] = s.getD (i + 1) [] := by
        cases s with
        | nil => rfl
        | cons a b => rfl
      rw [spec_CasesKept.l2_eq fix, lt_nat hi, wrap_nat (n := i) (by omega), inRange_nat, inRange_nat, decide_eq_true hi, decide_eq_true (by omega), Int.toNat_natCast, Int.toNat_natCast, e3]
      cases decide (((s.getD (i + 1) []).getD 0 U0).toInt = (((a18.getD i []).getD 4 U0).toLst.length : Int)) <;> rfl
  · obtain ⟨l, hrow, hw⟩ := row109 (h.2 _ (getD_mem hi (z := [])))
    have h1 := trail_le hi hrow
    have h2 := cntRs_length l
    rw [spec_CasesKept.l0_eq fix, lt_nat hi, hrow]
    refine runThru (l1 := fun j s => spec_CasesKept.l1 dn iterJ i j a0 a1 a2 a3 a4 a5 a6 a7 a8 a9 a10 a11 a12 a13 a14 a15 a16 a17 a18 a19 s) (st := stS a16 a18) (R := fun s => rB (countsOk a18 s.tail)) (F := rB false) (I := fun s => s.length = a18.length + 1) (l := l) (rest := (a9.drop (i + 1)).flatMap fun x => (x.getD 0 U0).toLst) (fun e s s' hs he => ?_) (fun s hs => ?_) (fun j hj s hs => ?_) s hs
    · unfold stS at he
      cases hk : decide (v0 e = 2)
      · rw [hk] at he; cases he; exact hs
      · cases hok : caseOk a16 a18 e
        · rw [hk, hok] at he; cases he
        · rw [hk, hok] at he; cases he; rw [bump_length]; exact hs
    · rw [spec_CasesKept.l1_eq fix, inRange_nat, decide_eq_true hi, Int.toNat_natCast, hrow]
      show (bif decide ((l.length : Int) < (l.length : Int)) then _ else _) = _
      rw [not_lt_nat (Nat.le_refl _), wrap_nat (n := i) (by omega)]
      exact ih s hs
    · rw [spec_CasesKept.l1_eq fix, inRange_nat, decide_eq_true hi, Int.toNat_natCast, hrow]
      show (bif decide ((j : Int) < (l.length : Int)) then bif inRange (j : Int) l.length then _ else _ else _) = _
      rw [lt_nat hj, inRange_nat, decide_eq_true hj, wrap_nat (n := j) (by omega)]
      show (bif !decide (v0 (l.getD j []) = 2) then _ else ((spec_l39Case.c dn a0 a1 a2 a3 a4 a5 a6 a7 a8 a9 a10 a11 a12 a13 a14 a15 a16 a17 a18 a19 ((l.getD j []).getD 0 U0).toInt ((l.getD j []).getD 1 U0).toInt ((l.getD j []).getD 2 U0).toInt ((l.getD j []).getD 3 U0).toInt ((l.getD j []).getD 4 U0).toInt ((l.getD j []).getD 5 U0).toInt ((l.getD j []).getD 6 U0).toInt ((l.getD j []).getD 7 U0).toInt ((l.getD j []).getD 8 U0).toInt).bind _)) = _
      rw [s_case _ _ _ _ _ _ _ _ _ _ _ _ _ _ _ _ _ _ _ _ _ ho hcs]
      unfold stS
      cases decide (v0 (l.getD j []) = 2)
      · rfl
      cases hok : caseOk a16 a18 (l.getD j [])
      · rfl
      · have hw : within ((l.getD j []).getD 3 U0).toInt 1 a18.length = true := by unfold caseOk at hok; rw [Bool.and_eq_true] at hok; exact hok.1
        obtain ⟨k, h1, h2, h3, h4⟩ := serial_at hcs hw
        show (bif inRange ((l.getD j []).getD 3 U0).toInt s.length then bif inRange ((l.getD j []).getD 3 U0).toInt s.length then _ else _ else _) = _
        rw [h1, inRange_nat, decide_eq_true (by omega), Int.toNat_natCast]
        have e4 : (l.getD j []).getD 3 U0 = (l.getD j []).getD 3 U0 := rfl
        show spec_CasesKept.l1 dn iterJ i ((j + 1 : Nat) : Int) a0 a1 a2 a3 a4 a5 a6 a7 a8 a9 a10 a11 a12 a13 a14 a15 a16 a17 a18 a19 (setEl s ((l.getD j []).getD 3 U0).toInt.toNat 0 [U.int (IntKind.i64.wrap (((s.getD ((l.getD j []).getD 3 U0).toInt.toNat []).getD 0 U0).toInt + 1))]) = spec_CasesKept.l1 dn iterJ i ((j + 1 : Nat) : Int) a0 a1 a2 a3 a4 a5 a6 a7 a8 a9 a10 a11 a12 a13 a14 a15 a16 a17 a18 a19 (bump s (((k + 1 : Nat) : Int)).toNat)
        rw [h1]; rfl
theorem runL_bool {st : List U → List (List U) → Option (List (List U))} {q : List (List U) → Bool} : ∀ (es s : List (List U)), ∃ b, runL st (fun s => rB (q s)) (rB false) es s = rB b
  | [], s => ⟨_, rfl⟩
  | e :: es, s => by
    unfold runL
    cases st e s with
    | none => exact ⟨false, rfl⟩
    | some s' => exact runL_bool es s'
end Go.Proofs.YtpkhifegfpehpaaGreat.Eng
