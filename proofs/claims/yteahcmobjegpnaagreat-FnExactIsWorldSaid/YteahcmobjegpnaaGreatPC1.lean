/- Emergencies: what the reference's and the program's functions compute. -/
import Derived.Test.YteahcmobjegpnaaGreatPA2
import Derived.Test.YteahcmobjegpnaaGreatH
import Derived.Test.YteahcmobjegpnaaGreatPT
namespace Go.Proofs.YteahcmobjegpnaaGreat.Eng
open Go.RowKit
set_option linter.unusedVariables false
set_option linter.unusedSimpArgs false
set_option linter.unusedSectionVars false
set_option maxRecDepth 100000
variable [Sm]
/- instances too -/
def endOf (a b : Int) : Int := if within a 0 10000 && within b 0 10000 then min (a + b) 10000 else 0
theorem s_end (a b : Int) : spec_EndOf.c a b = rI (endOf a b) := by
  rw [spec_EndOf.eq]; (try dsimp +instances only [gr, gi, gl, gb, gt, ui, ul, ub, ut, w64, ln, grd, Ret.i, Ret.l, Ret.b, Ret.t, Ret.ij, Ret.lj, Ret.bj, Ret.tj]); rw [s_time, s_time]
  show (bif !(within a 0 10000) then _ else bif !(within b 0 10000) then _ else _) = _
  unfold endOf
  cases h : within a 0 10000
  · rfl
  · cases h' : within b 0 10000
    · rfl
    · obtain ⟨h1, h2⟩ := within_inv h
      obtain ⟨h3, h4⟩ := within_inv h'
      rw [spec_Min.eq]; (try dsimp +instances only [gr, gi, gl, gb, gt, ui, ul, ub, ut, w64, ln, grd, Ret.i, Ret.l, Ret.b, Ret.t, Ret.ij, Ret.lj, Ret.bj, Ret.tj]); rw [wrap_id (by omega) (by omega)]
      by_cases c : a + b < 10000
      · rw [decide_eq_true c]; show rI (a + b) = rI (min (a + b) 10000); rw [Int.min_eq_left (by omega)]
      · rw [decide_eq_false c]; show rI 10000 = rI (min (a + b) 10000); rw [Int.min_eq_right (by omega)]
theorem i_end (a b : Int) : impl_EndOf.c a b = rI (endOf a b) := by
  rw [impl_EndOf.eq]; (try dsimp +instances only [gr, gi, gl, gb, gt, ui, ul, ub, ut, w64, ln, grd, Ret.i, Ret.l, Ret.b, Ret.t, Ret.ij, Ret.lj, Ret.bj, Ret.tj]); rw [i_time, i_in]
  show (bif !(within a 0 10000) then _ else bif !(within b 0 10000) then _ else _) = _
  unfold endOf
  cases h : within a 0 10000
  · rfl
  · cases h' : within b 0 10000
    · rfl
    · obtain ⟨h1, h2⟩ := within_inv h
      obtain ⟨h3, h4⟩ := within_inv h'
      rw [wrap_id (by omega) (by omega)]; rfl
def udr (xs ys : List (List U)) : Bool := xs.all fun x => has ys (v0 x)
theorem s_udr (xs ys : List (List U)) (hx : xs.length ≤ 4611686018427387904) (hy : ys.length ≤ 4611686018427387904) : spec_l30Under.c xs ys = rB (udr xs ys) := by
  rw [spec_l30Under.eq]; (try dsimp +instances only [gr, gi, gl, gb, gt, ui, ul, ub, ut, w64, ln, grd, Ret.i, Ret.l, Ret.b, Ret.t, Ret.ij, Ret.lj, Ret.bj, Ret.tj])
  refine (all_loop2 (l0 := fun i => spec_l30Under.l0 xs ys i) (n := xs.length) (p := fun i => has ys (v0 (xs.getD i []))) (b := true) ?_ fun i hi => ?_).trans (by rw [Bool.and_true, range_all xs [] fun x => has ys (v0 x)]; rfl)
  · rw [spec_l30Under.l0_eq]; (try dsimp +instances only [gr, gi, gl, gb, gt, ui, ul, ub, ut, w64, ln, grd, Ret.i, Ret.l, Ret.b, Ret.t, Ret.ij, Ret.lj, Ret.bj, Ret.tj]); rw [not_lt_nat (Nat.le_refl _)]; rfl
  · rw [spec_l30Under.l0_eq]; (try dsimp +instances only [gr, gi, gl, gb, gt, ui, ul, ub, ut, w64, ln, grd, Ret.i, Ret.l, Ret.b, Ret.t, Ret.ij, Ret.lj, Ret.bj, Ret.tj]); rw [lt_nat hi, inRange_nat, decide_eq_true hi, wrap_nat (by omega), Int.toNat_natCast, s_has _ hy]
    show (bif !(has ys _) then _ else _) = _
    cases has ys (v0 (xs.getD i [])) <;> rfl
theorem i_udr (xs a1 ys : List (List U)) (a3 : Int) (hx : xs.length ≤ 4611686018427387904) (hy : ys.length ≤ 4611686018427387904) : slices_ContainsFunc__impl_isEmergency_1.c xs a1 ys a3 = rB (!(udr xs ys)) := by
  have h : slices_IndexFunc__impl_isEmergency_1.c xs a1 ys a3 = rI (pos (fun i => !(has ys (v0 (xs.getD i [])))) xs.length 0) := by
    rw [slices_IndexFunc__impl_isEmergency_1.eq]; (try dsimp +instances only [gr, gi, gl, gb, gt, ui, ul, ub, ut, w64, ln, grd, Ret.i, Ret.l, Ret.b, Ret.t, Ret.ij, Ret.lj, Ret.bj, Ret.tj])
    refine find_loop (l0 := fun i => slices_IndexFunc__impl_isEmergency_1.l0 xs a1 ys a3 _ i) (n := xs.length) (p := fun i => !(has ys (v0 (xs.getD i [])))) ?_ fun i hi => ?_
    · rw [slices_IndexFunc__impl_isEmergency_1.l0_eq]; (try dsimp +instances only [gr, gi, gl, gb, gt, ui, ul, ub, ut, w64, ln, grd, Ret.i, Ret.l, Ret.b, Ret.t, Ret.ij, Ret.lj, Ret.bj, Ret.tj]); rw [not_lt_nat (Nat.le_refl _)]; rfl
    · rw [slices_IndexFunc__impl_isEmergency_1.l0_eq]; (try dsimp +instances only [gr, gi, gl, gb, gt, ui, ul, ub, ut, w64, ln, grd, Ret.i, Ret.l, Ret.b, Ret.t, Ret.ij, Ret.lj, Ret.bj, Ret.tj]); rw [lt_nat hi, inRange_nat, decide_eq_true hi, wrap_nat (by omega), Int.toNat_natCast, impl_isEmergency_1.eq, i_has _ hy]; rfl
  rw [slices_ContainsFunc__impl_isEmergency_1.eq]; (try dsimp +instances only [gr, gi, gl, gb, gt, ui, ul, ub, ut, w64, ln, grd, Ret.i, Ret.l, Ret.b, Ret.t, Ret.ij, Ret.lj, Ret.bj, Ret.tj]); rw [h]
  show rB (decide (pos _ _ _ ≥ 0)) = _
  rw [pos_any, ← List.range_eq_range', range_any xs [] fun x => !(has ys (v0 x))]
  simp only [udr, List.all_eq_not_any_not, Bool.not_not]
/-- Unsettled, of a person. -/
def owes (p : Int) (x : List U) : Bool := decide ((x.getD 1 U0).toInt = p) && !(x.getD 5 U0).toBool
def debts (xs : List (List U)) (p : Int) : List (List U) := (xs.filter (owes p)).map fun x => [.int (v0 x)]
theorem s_debts (xs : List (List U)) (hx : xs.length ≤ 1048576) (p : Int) : spec_DebtsOf.c xs p = some ⟨[[.lst (debts xs p)]], []⟩ := by
  rw [spec_DebtsOf.eq]; (try dsimp +instances only [gr, gi, gl, gb, gt, ui, ul, ub, ut, w64, ln, grd, Ret.i, Ret.l, Ret.b, Ret.t, Ret.ij, Ret.lj, Ret.bj, Ret.tj])
  refine (gather_loop (l0 := fun i s => spec_DebtsOf.l0 xs p i s) (n := xs.length) (p := fun i => owes p (xs.getD i [])) (row := fun i => [.int (v0 (xs.getD i []))]) (R := fun s => some ⟨[[.lst s]], []⟩) (fun s hs => ?_) fun i hi s hs => ?_).trans (by rw [range_filter xs [] (owes p) fun x => [U.int (v0 x)]]; rfl)
  · rw [spec_DebtsOf.l0_eq]; (try dsimp +instances only [gr, gi, gl, gb, gt, ui, ul, ub, ut, w64, ln, grd, Ret.i, Ret.l, Ret.b, Ret.t, Ret.ij, Ret.lj, Ret.bj, Ret.tj]); rw [not_lt_nat (Nat.le_refl _)]; rfl
  · rw [spec_DebtsOf.l0_eq]; (try dsimp +instances only [gr, gi, gl, gb, gt, ui, ul, ub, ut, w64, ln, grd, Ret.i, Ret.l, Ret.b, Ret.t, Ret.ij, Ret.lj, Ret.bj, Ret.tj]); rw [lt_nat hi, inRange_nat, decide_eq_true hi, wrap_nat (by omega), Int.toNat_natCast, room_true (by simp; omega) (by simp; omega)]
    unfold owes
    cases decide (((xs.getD i []).getD 1 U0).toInt = p) <;> cases ((xs.getD i []).getD 5 U0).toBool <;> rfl
theorem i_debts (xs : List (List U)) (hx : xs.length ≤ 1048576) (p : Int) : impl_DebtsOf.c xs p = some ⟨[[.lst (debts xs p)]], []⟩ := by
  rw [impl_DebtsOf.eq]; (try dsimp +instances only [gr, gi, gl, gb, gt, ui, ul, ub, ut, w64, ln, grd, Ret.i, Ret.l, Ret.b, Ret.t, Ret.ij, Ret.lj, Ret.bj, Ret.tj])
  refine (gather_loop (l0 := fun i s => impl_DebtsOf.l0 p xs _ i s) (n := xs.length) (p := fun i => owes p (xs.getD i [])) (row := fun i => [.int (v0 (xs.getD i []))]) (R := fun s => some ⟨[[.lst s]], []⟩) (fun s hs => ?_) fun i hi s hs => ?_).trans (by rw [range_filter xs [] (owes p) fun x => [U.int (v0 x)]]; rfl)
  · rw [impl_DebtsOf.l0_eq]; (try dsimp +instances only [gr, gi, gl, gb, gt, ui, ul, ub, ut, w64, ln, grd, Ret.i, Ret.l, Ret.b, Ret.t, Ret.ij, Ret.lj, Ret.bj, Ret.tj]); rw [not_lt_nat (Nat.le_refl _)]; rfl
  · rw [impl_DebtsOf.l0_eq]; (try dsimp +instances only [gr, gi, gl, gb, gt, ui, ul, ub, ut, w64, ln, grd, Ret.i, Ret.l, Ret.b, Ret.t, Ret.ij, Ret.lj, Ret.bj, Ret.tj]); rw [lt_nat hi, inRange_nat, decide_eq_true hi, wrap_nat (by omega), Int.toNat_natCast, room_true (by simp; omega) (by simp; omega)]
    unfold owes
    cases decide (((xs.getD i []).getD 1 U0).toInt = p) <;> cases ((xs.getD i []).getD 5 U0).toBool <;> rfl
/-- Whether one is behind the one before. -/
def ascAt (xs : List (List U)) (i : Nat) : Bool := !(decide (0 < i) && decide (v0 (xs.getD (i - 1) []) ≥ v0 (xs.getD i [])))
def ascs (xs : List (List U)) (lo hi : Int) : Bool := (List.range xs.length).all fun i => within (v0 (xs.getD i [])) lo hi && ascAt xs i
theorem pred_nat {i : Nat} (h : i ≤ 4611686018427387904) (h0 : 0 < i) : IntKind.i64.wrap ((i : Int) - 1) = ((i - 1 : Nat) : Int) := by rw [wrap_id (by omega) (by omega)]; omega
theorem i_ascs (xs : List (List U)) (hx : xs.length ≤ 1048576) (lo hi : Int) : impl_isAscending.c xs lo hi = rB (ascs xs lo hi) := by
  rw [impl_isAscending.eq]; (try dsimp +instances only [gr, gi, gl, gb, gt, ui, ul, ub, ut, w64, ln, grd, Ret.i, Ret.l, Ret.b, Ret.t, Ret.ij, Ret.lj, Ret.bj, Ret.tj])
  refine (all_loop2 (l0 := fun i => impl_isAscending.l0 xs lo hi xs _ i) (n := xs.length) (p := fun i => within (v0 (xs.getD i [])) lo hi && ascAt xs i) (b := true) ?_ fun i hi' => ?_).trans (by rw [Bool.and_true]; rfl)
  · rw [impl_isAscending.l0_eq]; (try dsimp +instances only [gr, gi, gl, gb, gt, ui, ul, ub, ut, w64, ln, grd, Ret.i, Ret.l, Ret.b, Ret.t, Ret.ij, Ret.lj, Ret.bj, Ret.tj]); rw [not_lt_nat (Nat.le_refl _)]; rfl
  · rw [impl_isAscending.l0_eq]; (try dsimp +instances only [gr, gi, gl, gb, gt, ui, ul, ub, ut, w64, ln, grd, Ret.i, Ret.l, Ret.b, Ret.t, Ret.ij, Ret.lj, Ret.bj, Ret.tj]); rw [lt_nat hi', inRange_nat, decide_eq_true hi', wrap_nat (by omega), Int.toNat_natCast, i_in]
    show (bif !(within (v0 (xs.getD i [])) lo hi) then _ else _) = _
    cases within (v0 (xs.getD i [])) lo hi
    · rfl
    · unfold ascAt
      by_cases h0 : 0 < i
      · rw [decide_eq_true (by omega : (i : Int) > 0), pred_nat (by omega) h0, inRange_nat, decide_eq_true (by omega), decide_eq_true h0]
        cases h : decide (v0 (xs.getD (i - 1) []) ≥ v0 (xs.getD i [])) <;> simp only [Int.toNat_natCast, cond_true, h] <;> rfl
      · rw [decide_eq_false (by omega : ¬ (i : Int) > 0), decide_eq_false h0]; rfl
theorem s_names (xs : List (List U)) (hx : xs.length ≤ 1048576) (k : Int) (h1 : 1 ≤ k) (h4 : k ≤ 4) : spec_l33Names.c xs k = rB (ascs xs (10 * k) (10 * k + 9)) := by
  rw [spec_l33Names.eq]; (try dsimp +instances only [gr, gi, gl, gb, gt, ui, ul, ub, ut, w64, ln, grd, Ret.i, Ret.l, Ret.b, Ret.t, Ret.ij, Ret.lj, Ret.bj, Ret.tj])
  have e : ∀ v, hasKind v k = within v (10 * k) (10 * k + 9) := by
    intro v
    unfold hasKind within
    rw [Bool.eq_iff_iff]
    simp only [Bool.and_eq_true, decide_eq_true_eq]
    by_cases hv : 0 ≤ v
    · rw [Int.tdiv_eq_ediv_of_nonneg hv]; omega
    · omega
  refine (all_loop2 (l0 := fun i => spec_l33Names.l0 xs k i) (n := xs.length) (p := fun i => within (v0 (xs.getD i [])) (10 * k) (10 * k + 9) && ascAt xs i) (b := true) ?_ fun i hi' => ?_).trans (by rw [Bool.and_true]; rfl)
  · rw [spec_l33Names.l0_eq]; (try dsimp +instances only [gr, gi, gl, gb, gt, ui, ul, ub, ut, w64, ln, grd, Ret.i, Ret.l, Ret.b, Ret.t, Ret.ij, Ret.lj, Ret.bj, Ret.tj]); rw [not_lt_nat (Nat.le_refl _)]; rfl
  · rw [spec_l33Names.l0_eq]; (try dsimp +instances only [gr, gi, gl, gb, gt, ui, ul, ub, ut, w64, ln, grd, Ret.i, Ret.l, Ret.b, Ret.t, Ret.ij, Ret.lj, Ret.bj, Ret.tj]); rw [lt_nat hi', inRange_nat, decide_eq_true hi', wrap_nat (by omega), Int.toNat_natCast, s_kind, e]
    show (bif !(within (v0 (xs.getD i [])) (10 * k) (10 * k + 9)) then _ else _) = _
    cases within (v0 (xs.getD i [])) (10 * k) (10 * k + 9)
    · rfl
    · unfold ascAt
      by_cases h0 : 0 < i
      · rw [decide_eq_true (by omega : (i : Int) > 0), pred_nat (by omega) h0, inRange_nat, decide_eq_true (by omega), decide_eq_true h0]
        cases h : decide (v0 (xs.getD (i - 1) []) ≥ v0 (xs.getD i [])) <;> simp only [Int.toNat_natCast, cond_true, h] <;> rfl
      · rw [decide_eq_false (by omega : ¬ (i : Int) > 0), decide_eq_false h0]; rfl
def isPlan (a b : List (List U)) (s : Int) : Bool := ascs a 10 19 && (ascs b 40 49 && within s 0 10)
theorem s_plan (a b : List (List U)) (ha : a.length ≤ 1048576) (hb : b.length ≤ 1048576) (s : Int) : spec_IsPlan.c a b s = rB (isPlan a b s) := by
  rw [spec_IsPlan.eq]; (try dsimp +instances only [gr, gi, gl, gb, gt, ui, ul, ub, ut, w64, ln, grd, Ret.i, Ret.l, Ret.b, Ret.t, Ret.ij, Ret.lj, Ret.bj, Ret.tj]); rw [s_names a ha 1 (by omega) (by omega), s_names b hb 4 (by omega) (by omega), s_in]
  unfold isPlan
  show (bif ascs a 10 19 then bif ascs b 40 49 then _ else _ else _) = _
  cases ascs a 10 19 <;> cases ascs b 40 49 <;> rfl
theorem i_plan (a b : List (List U)) (ha : a.length ≤ 1048576) (hb : b.length ≤ 1048576) (s : Int) : impl_IsPlan.c a b s = rB (isPlan a b s) := by
  rw [impl_IsPlan.eq]; (try dsimp +instances only [gr, gi, gl, gb, gt, ui, ul, ub, ut, w64, ln, grd, Ret.i, Ret.l, Ret.b, Ret.t, Ret.ij, Ret.lj, Ret.bj, Ret.tj]); rw [i_ascs a ha, i_ascs b hb, i_in]
  unfold isPlan
  show (bif ascs a 10 19 then bif ascs b 40 49 then _ else _ else _) = _
  cases ascs a 10 19 <;> cases ascs b 40 49 <;> rfl
theorem used_le {xs : List (List U)} {i : Nat} {a b c d : Int} {u : List (List U)} {s : Bool} (hi : i < xs.length) (hr : xs.getD i [] = [.int a, .int b, .int c, .int d, .lst u, .bool s]) : u.length ≤ cntRs xs := by
  have h := cntR_mem (getD_mem hi (z := []))
  rw [hr] at h
  simp only [cntR, cntU] at h
  have := cntRs_length u
  omega
/-- What is asked of one emergency, but for the debts. -/
def emOk (ps os : List (List U)) (sp : Int) (xs : List (List U)) (i : Nat) : Bool :=
  decide (v0 (xs.getD i []) = ((i + 1 : Nat) : Int)) && (has ps ((xs.getD i []).getD 1 U0).toInt && (within ((xs.getD i []).getD 2 U0).toInt 0 10000 && (!(decide (0 < i) && decide (((xs.getD (i - 1) []).getD 2 U0).toInt > ((xs.getD i []).getD 2 U0).toInt)) && (decide (((xs.getD i []).getD 3 U0).toInt = endOf ((xs.getD i []).getD 2 U0).toInt sp) && udr ((xs.getD i []).getD 4 U0).toLst os))))
theorem debts_length (xs : List (List U)) (p : Int) : (debts xs p).length = xs.countP (owes p) := by rw [debts, List.length_map, List.countP_eq_length_filter]
def areS (ps os : List (List U)) (sp : Int) (xs : List (List U)) : Bool := ((List.range xs.length).all fun i => emOk ps os sp xs i && decide (xs.countP (owes ((xs.getD i []).getD 1 U0).toInt) ≤ 1)) && (isPlan ps os sp && decide ((xs.length : Int) ≤ 8))
def areI (ps os : List (List U)) (sp : Int) (xs : List (List U)) : Bool := ((List.range xs.length).all fun i => emOk ps os sp xs i && (((xs.getD i []).getD 5 U0).toBool || decide ((xs.take i).countP (owes ((xs.getD i []).getD 1 U0).toInt) = 0))) && (isPlan ps os sp && decide ((xs.length : Int) ≤ 8))
theorem s_are (ps os : List (List U)) (sp : Int) (xs : List (List U)) (h : WR tabs.ct 170 xs) (hc : cntRs xs ≤ 1048576) (hp : ps.length ≤ 1048576) (ho : os.length ≤ 1048576) : spec_AreEmergencies.c ps os sp xs = rB (areS ps os sp xs) := by
  have hl := cntRs_length xs
  rw [spec_AreEmergencies.eq]; (try dsimp +instances only [gr, gi, gl, gb, gt, ui, ul, ub, ut, w64, ln, grd, Ret.i, Ret.l, Ret.b, Ret.t, Ret.ij, Ret.lj, Ret.bj, Ret.tj])
  refine all_loop2 (l0 := fun i => spec_AreEmergencies.l0 xs i ps os sp) (n := xs.length) ?_ fun i hi => ?_
  · rw [spec_AreEmergencies.l0_eq]; (try dsimp +instances only [gr, gi, gl, gb, gt, ui, ul, ub, ut, w64, ln, grd, Ret.i, Ret.l, Ret.b, Ret.t, Ret.ij, Ret.lj, Ret.bj, Ret.tj]); rw [not_lt_nat (Nat.le_refl _), s_plan _ _ hp ho]
    show (bif isPlan ps os sp then _ else _) = _
    cases isPlan ps os sp <;> rfl
  · obtain ⟨a, b, c, d, u, e, hr, hu⟩ := row170 (h.2 _ (getD_mem hi (z := [])))
    have hul := used_le hi hr
    rw [spec_AreEmergencies.l0_eq]; (try dsimp +instances only [gr, gi, gl, gb, gt, ui, ul, ub, ut, w64, ln, grd, Ret.i, Ret.l, Ret.b, Ret.t, Ret.ij, Ret.lj, Ret.bj, Ret.tj]); rw [lt_nat hi, inRange_nat, decide_eq_true hi, wrap_nat (by omega), Int.toNat_natCast]
    unfold emOk v0
    rw [hr]
    show (bif !decide (a = _) then _ else (spec_l13Has.c ps b).bind _) = bif decide (a = _) && (has ps b && (within c 0 10000 && (_ && (decide (d = endOf c sp) && udr u os)))) && _ then _ else _
    rw [s_has _ (by omega)]
    show (bif !decide (a = _) then _ else bif !(has ps b) then _ else (spec_IsTime.c c).bind _) = _
    rw [s_time]
    show (bif !decide (a = _) then _ else bif !(has ps b) then _ else bif !(within c 0 10000) then _ else _) = _
    cases decide (a = ((i + 1 : Nat) : Int))
    · rfl
    cases has ps b
    · rfl
    cases within c 0 10000
    · rfl
    have tail : ((spec_EndOf.c c sp).bind fun r5 => bif !decide (d = (r5.u 0 0).toInt) then (some ⟨[[.bool false]], []⟩) else ((spec_l30Under.c u os).bind fun r6 => bif !(r6.u 0 0).toBool then (some ⟨[[.bool false]], []⟩) else ((spec_DebtsOf.c xs b).bind fun r7 => bif decide ((↑(r7.u 0 0).toLst.length : Int) > (1 : Int)) then (some ⟨[[.bool false]], []⟩) else (spec_AreEmergencies.l0 xs ((i + 1 : Nat) : Int) ps os sp)))) = bif decide (d = endOf c sp) && udr u os && decide (xs.countP (owes b) ≤ 1) then spec_AreEmergencies.l0 xs ((i + 1 : Nat) : Int) ps os sp else rB false := by
      rw [s_end, s_udr _ _ (by omega) (by omega), s_debts _ (by omega)]
      show (bif !decide (d = endOf c sp) then _ else bif !(udr u os) then _ else bif decide (((debts xs b).length : Int) > 1) then _ else _) = _
      rw [debts_length]
      cases decide (d = endOf c sp)
      · rfl
      cases udr u os
      · rfl
      by_cases hd : xs.countP (owes b) ≤ 1
      · rw [decide_eq_true hd, decide_eq_false (by omega)]; rfl
      · rw [decide_eq_false hd, decide_eq_true (by omega)]; rfl
    by_cases h0 : 0 < i
    · rw [decide_eq_true (by omega : (i : Int) > 0), pred_nat (by omega) h0, inRange_nat, decide_eq_true (by omega), decide_eq_true h0]
      show (bif decide (((xs.getD (i - 1) []).getD 2 U0).toInt > c) then _ else _) = bif (!decide (((xs.getD (i - 1) []).getD 2 U0).toInt > c) && (decide (d = endOf c sp) && udr u os)) && _ then _ else _
      cases decide (((xs.getD (i - 1) []).getD 2 U0).toInt > c)
      · exact tail
      · rfl
    · rw [decide_eq_false (by omega : ¬ (i : Int) > 0), decide_eq_false h0]
      exact tail
theorem i_are (ps os : List (List U)) (sp : Int) (xs : List (List U)) (h : WR tabs.ct 170 xs) (hc : cntRs xs ≤ 1048576) (hp : ps.length ≤ 1048576) (ho : os.length ≤ 1048576) : impl_AreEmergencies.c ps os sp xs = rB (areI ps os sp xs) := by
  have hl := cntRs_length xs
  rw [impl_AreEmergencies.eq]; (try dsimp +instances only [gr, gi, gl, gb, gt, ui, ul, ub, ut, w64, ln, grd, Ret.i, Ret.l, Ret.b, Ret.t, Ret.ij, Ret.lj, Ret.bj, Ret.tj])
  refine all_loop2 (l0 := fun i => impl_AreEmergencies.l0 xs xs _ i ps os sp) (n := xs.length) ?_ fun i hi => ?_
  · rw [impl_AreEmergencies.l0_eq]; (try dsimp +instances only [gr, gi, gl, gb, gt, ui, ul, ub, ut, w64, ln, grd, Ret.i, Ret.l, Ret.b, Ret.t, Ret.ij, Ret.lj, Ret.bj, Ret.tj]); rw [not_lt_nat (Nat.le_refl _), i_plan _ _ hp ho]
    show (bif isPlan ps os sp then _ else _) = _
    cases isPlan ps os sp <;> rfl
  · obtain ⟨a, b, c, d, u, e, hr, hu⟩ := row170 (h.2 _ (getD_mem hi (z := [])))
    have hul := used_le hi hr
    have htl : (xs.take i).length = i := by rw [List.length_take]; omega
    have e0 : Int.toNat ((i : Int) - 0) = i := by omega
    have key : impl_isEmergency.c ps os sp a b c d u e (xs.take i) = rB (emOk ps os sp xs i && (e || decide ((xs.take i).countP (owes b) = 0))) := by
      rw [impl_isEmergency.eq]; (try dsimp +instances only [gr, gi, gl, gb, gt, ui, ul, ub, ut, w64, ln, grd, Ret.i, Ret.l, Ret.b, Ret.t, Ret.ij, Ret.lj, Ret.bj, Ret.tj]); simp only [htl]; rw [wrap_nat (by omega), i_has _ (by omega), i_time]
      unfold emOk v0
      rw [hr]
      show (bif !decide (a = _) then _ else bif !(has ps b) then _ else bif !(within c 0 10000) then _ else _) = rB (decide (a = _) && (has ps b && (within c 0 10000 && (_ && (decide (d = endOf c sp) && udr u os)))) && _)
      cases decide (a = ((i + 1 : Nat) : Int))
      · rfl
      cases has ps b
      · rfl
      cases within c 0 10000
      · rfl
      have tail : ((impl_EndOf.c c sp).bind fun r5 => bif !decide (d = (r5.u 0 0).toInt) then (some ⟨[[.bool false]], []⟩) else ((slices_ContainsFunc__impl_isEmergency_1.c u ps os sp).bind fun r6 => bif (r6.u 0 0).toBool then (some ⟨[[.bool false]], []⟩) else (bif e then (some ⟨[[.bool true]], []⟩) else ((impl_DebtsOf.c (xs.take i) b).bind fun r7 => some ⟨[[.bool (decide ((↑(r7.u 0 0).toLst.length : Int) = (0 : Int)))]], []⟩)))) = rB (decide (d = endOf c sp) && udr u os && (e || decide ((xs.take i).countP (owes b) = 0))) := by
        rw [i_end, i_udr _ _ _ _ (by omega) (by omega), i_debts _ (by omega)]
        show (bif !decide (d = endOf c sp) then _ else bif !(udr u os) then _ else bif e then _ else rB (decide (((debts (xs.take i) b).length : Int) = 0))) = _
        rw [debts_length]
        cases decide (d = endOf c sp)
        · rfl
        cases udr u os
        · rfl
        cases e
        · show rB _ = rB _
          congr 1
          show decide _ = decide _
          rw [decide_eq_decide]; omega
        · rfl
      by_cases h0 : 0 < i
      · have e1 : (xs.take i).getD (i - 1) [] = xs.getD (i - 1) [] := by
          rw [List.getD_eq_getElem?_getD, List.getD_eq_getElem?_getD, List.getElem?_take, if_pos (by omega)]
        rw [decide_eq_true (by omega : (i : Int) > 0), pred_nat (by omega) h0, inRange_nat, decide_eq_true (by omega), decide_eq_true h0, Int.toNat_natCast, e1]
        show (bif decide (((xs.getD (i - 1) []).getD 2 U0).toInt > c) then _ else _) = rB ((!decide (((xs.getD (i - 1) []).getD 2 U0).toInt > c) && (decide (d = endOf c sp) && udr u os)) && _)
        cases decide (((xs.getD (i - 1) []).getD 2 U0).toInt > c)
        · exact tail
        · rfl
      · rw [decide_eq_false (by omega : ¬ (i : Int) > 0), decide_eq_false h0]
        exact tail
    rw [impl_AreEmergencies.l0_eq]; (try dsimp +instances only [gr, gi, gl, gb, gt, ui, ul, ub, ut, w64, ln, grd, Ret.i, Ret.l, Ret.b, Ret.t, Ret.ij, Ret.lj, Ret.bj, Ret.tj]); rw [lt_nat hi, inRange_nat, decide_eq_true hi, wrap_nat (by omega), Int.toNat_natCast, decide_eq_true (by omega), e0, hr]
    show ((impl_isEmergency.c ps os sp a b c d u e (xs.take i)).bind _) = bif emOk ps os sp xs i && (e || decide ((xs.take i).countP (owes b) = 0)) then _ else _
    rw [key]
    show (bif !(emOk ps os sp xs i && _) then _ else _) = _
    cases (emOk ps os sp xs i && (e || decide ((xs.take i).countP (owes b) = 0))) <;> rfl
/-- At most one debt each: whether all are counted, or those before each. -/
theorem one_each (q : Int → List U → Bool) (per : List U → Int) (un : List U → Bool) (hq : ∀ p x, q p x = (decide (per x = p) && un x)) : ∀ xs : List (List U), (∀ p, xs.countP (q p) ≤ 1) ↔ xs.Pairwise fun a b => ¬ (un a = true ∧ un b = true ∧ per a = per b)
  | [] => by simp
  | x :: xs => by
    rw [List.pairwise_cons, ← one_each q per un hq xs]
    simp only [List.countP_cons]
    constructor
    · intro h
      refine ⟨fun b hb hx => ?_, fun p => by have := h p; omega⟩
      have h1 := h (per x)
      rw [hq (per x) x, decide_eq_true rfl, hx.1] at h1
      have : 0 < xs.countP (q (per x)) := List.countP_pos_iff.2 ⟨b, hb, by rw [hq, hx.2.1, decide_eq_true hx.2.2.symm]; rfl⟩
      rw [Bool.and_true, if_pos rfl] at h1
      omega
    · intro ⟨h1, h2⟩ p
      have := h2 p
      split
      · rename_i hx
        rw [hq] at hx
        simp only [Bool.and_eq_true, decide_eq_true_eq] at hx
        have : xs.countP (q p) = 0 := List.countP_eq_zero.2 fun b hb hq' => h1 b hb ⟨hx.2, by rw [hq] at hq'; simp only [Bool.and_eq_true, decide_eq_true_eq] at hq'; exact ⟨hq'.2, hx.1.trans hq'.1.symm⟩⟩
        omega
      · omega
theorem are_eq (ps os : List (List U)) (sp : Int) (xs : List (List U)) : areS ps os sp xs = areI ps os sp xs := by
  unfold areS areI
  congr 1
  have hq : ∀ p x, owes p x = (decide ((x.getD 1 U0).toInt = p) && !(x.getD 5 U0).toBool) := fun p x => rfl
  have H := one_each owes (fun x => (x.getD 1 U0).toInt) (fun x => !(x.getD 5 U0).toBool) hq xs
  have e : ∀ i (h : i < xs.length), xs.getD i [] = xs[i] := fun i h => by rw [List.getD_eq_getElem?_getD, List.getElem?_eq_getElem h]; rfl
  rw [Bool.eq_iff_iff, List.all_eq_true, List.all_eq_true]
  simp only [List.mem_range, Bool.and_eq_true, decide_eq_true_eq, Bool.or_eq_true]
  have A : (∀ i, i < xs.length → xs.countP (owes ((xs.getD i []).getD 1 U0).toInt) ≤ 1) ↔ ∀ p, xs.countP (owes p) ≤ 1 := by
    refine ⟨fun h p => ?_, fun h i hi => h _⟩
    by_cases hp : 0 < xs.countP (owes p)
    · obtain ⟨x, hx, h1⟩ := List.countP_pos_iff.1 hp
      obtain ⟨i, hi, rfl⟩ := List.mem_iff_getElem.1 hx
      have := h i hi
      rw [hq] at h1
      simp only [Bool.and_eq_true, decide_eq_true_eq] at h1
      rw [e i hi, h1.1] at this
      exact this
    · omega
  have B : (∀ i, i < xs.length → ((xs.getD i []).getD 5 U0).toBool = true ∨ (xs.take i).countP (owes ((xs.getD i []).getD 1 U0).toInt) = 0) ↔ xs.Pairwise fun a b => ¬ ((!(a.getD 5 U0).toBool) = true ∧ (!(b.getD 5 U0).toBool) = true ∧ (a.getD 1 U0).toInt = (b.getD 1 U0).toInt) := by
    rw [List.pairwise_iff_getElem]
    constructor
    · intro h i j hi hj hij ⟨h1, h2, h3⟩
      rcases h j hj with h4 | h4
      · rw [e j hj] at h4; rw [h4] at h2; cases h2
      · have := List.countP_eq_zero.1 h4 xs[i] (List.mem_iff_getElem.2 ⟨i, by rw [List.length_take]; omega, by rw [List.getElem_take]⟩)
        rw [hq, e j hj, decide_eq_true h3, h1] at this
        exact this rfl
    · intro h j hj
      cases hs : ((xs.getD j []).getD 5 U0).toBool with
      | true => exact .inl rfl
      | false =>
        refine .inr (List.countP_eq_zero.2 fun x hx h1 => ?_)
        obtain ⟨i, hi, rfl⟩ := List.mem_iff_getElem.1 hx
        rw [List.length_take] at hi
        rw [List.getElem_take, hq] at h1
        simp only [Bool.and_eq_true, decide_eq_true_eq] at h1
        refine h i j (by omega) hj (by omega) ⟨h1.2, ?_, ?_⟩
        · rw [← e j hj, hs]; rfl
        · rw [h1.1, e j hj]
  constructor
  · intro h i hi
    exact ⟨(h i hi).1, B.2 (H.1 (A.1 fun i hi => (h i hi).2)) i hi⟩
  · intro h i hi
    exact ⟨(h i hi).1, A.2 (H.2 (B.1 fun i hi => (h i hi).2)) i hi⟩
end Go.Proofs.YteahcmobjegpnaaGreat.Eng
