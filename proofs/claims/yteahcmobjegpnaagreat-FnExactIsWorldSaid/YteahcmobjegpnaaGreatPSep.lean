/- Uses that are kept apart. -/
import Derived.Test.YteahcmobjegpnaaGreatPA2
namespace Go.Proofs.YteahcmobjegpnaaGreat.Eng
open Go.RowKit
set_option linter.unusedVariables false
set_option linter.unusedSimpArgs false
set_option linter.unusedSectionVars false
set_option maxRecDepth 100000
variable [Sm]
/- instances too -/
/-- Whether two actions are kept apart. -/
def apart (l : List (List U)) (a b o : Int) : Bool := l.any fun x => decide ((x.getD 2 U0).toInt = o) && (decide (v0 x = a) && decide ((x.getD 1 U0).toInt = b) || decide (v0 x = b) && decide ((x.getD 1 U0).toInt = a))
theorem s_apart (l : List (List U)) (hl : l.length ≤ 1048576) (a b o : Int) : spec_AreApart.c l a b o = rB (apart l a b o) := by
  rw [spec_AreApart.eq]; (try dsimp +instances only [gr, gi, gl, gb, gt, ui, ul, ub, ut, w64, ln, grd, Ret.i, Ret.l, Ret.b, Ret.t, Ret.ij, Ret.lj, Ret.bj, Ret.tj])
  refine (any_loop (l0 := fun i => spec_AreApart.l0 l a b o i) (n := l.length) (p := fun i => decide (((l.getD i []).getD 2 U0).toInt = o) && (decide (v0 (l.getD i []) = a) && decide (((l.getD i []).getD 1 U0).toInt = b) || decide (v0 (l.getD i []) = b) && decide (((l.getD i []).getD 1 U0).toInt = a))) ?_ fun i hi => ?_).trans (congrArg rB (range_any l [] fun x => decide ((x.getD 2 U0).toInt = o) && (decide (v0 x = a) && decide ((x.getD 1 U0).toInt = b) || decide (v0 x = b) && decide ((x.getD 1 U0).toInt = a))))
  · rw [spec_AreApart.l0_eq]; (try dsimp +instances only [gr, gi, gl, gb, gt, ui, ul, ub, ut, w64, ln, grd, Ret.i, Ret.l, Ret.b, Ret.t, Ret.ij, Ret.lj, Ret.bj, Ret.tj]); rw [not_lt_nat (Nat.le_refl _)]; rfl
  · rw [spec_AreApart.l0_eq]; (try dsimp +instances only [gr, gi, gl, gb, gt, ui, ul, ub, ut, w64, ln, grd, Ret.i, Ret.l, Ret.b, Ret.t, Ret.ij, Ret.lj, Ret.bj, Ret.tj]); rw [lt_nat hi, inRange_nat, decide_eq_true hi, wrap_nat (by omega), Int.toNat_natCast]
    cases decide (((l.getD i []).getD 2 U0).toInt = o)
    · rfl
    cases decide (((l.getD i []).getD 0 U0).toInt = a) <;> cases decide (((l.getD i []).getD 1 U0).toInt = b) <;> cases decide (((l.getD i []).getD 0 U0).toInt = b) <;> cases decide (((l.getD i []).getD 1 U0).toInt = a) <;> rfl
theorem i_has3 (l : List (List U)) (hl : l.length ≤ 1048576) (a b o : Int) : slices_Contains_Apart.c l a b o = rB (l.any fun x => decide (a = v0 x) && (decide (b = (x.getD 1 U0).toInt) && (decide (o = (x.getD 2 U0).toInt) && true))) := by
  have : slices_Index_Apart.c l a b o = rI (pos (fun i => decide (a = v0 (l.getD i [])) && (decide (b = ((l.getD i []).getD 1 U0).toInt) && (decide (o = ((l.getD i []).getD 2 U0).toInt) && true))) l.length 0) := by
    rw [slices_Index_Apart.eq]; (try dsimp +instances only [gr, gi, gl, gb, gt, ui, ul, ub, ut, w64, ln, grd, Ret.i, Ret.l, Ret.b, Ret.t, Ret.ij, Ret.lj, Ret.bj, Ret.tj])
    refine find_loop (l0 := fun i => slices_Index_Apart.l0 l _ i a b o) (n := l.length) (p := fun i => decide (a = v0 (l.getD i [])) && (decide (b = ((l.getD i []).getD 1 U0).toInt) && (decide (o = ((l.getD i []).getD 2 U0).toInt) && true))) ?_ fun i hi => ?_
    · rw [slices_Index_Apart.l0_eq]; (try dsimp +instances only [gr, gi, gl, gb, gt, ui, ul, ub, ut, w64, ln, grd, Ret.i, Ret.l, Ret.b, Ret.t, Ret.ij, Ret.lj, Ret.bj, Ret.tj]); rw [not_lt_nat (Nat.le_refl _)]; rfl
    · rw [slices_Index_Apart.l0_eq]; (try dsimp +instances only [gr, gi, gl, gb, gt, ui, ul, ub, ut, w64, ln, grd, Ret.i, Ret.l, Ret.b, Ret.t, Ret.ij, Ret.lj, Ret.bj, Ret.tj]); rw [lt_nat hi, inRange_nat, decide_eq_true hi, wrap_nat (by omega)]; rfl
  rw [slices_Contains_Apart.eq]; (try dsimp +instances only [gr, gi, gl, gb, gt, ui, ul, ub, ut, w64, ln, grd, Ret.i, Ret.l, Ret.b, Ret.t, Ret.ij, Ret.lj, Ret.bj, Ret.tj]); rw [this]
  show rB (decide (pos _ _ _ ≥ 0)) = _
  rw [any_pos fun x => decide (a = v0 x) && (decide (b = (x.getD 1 U0).toInt) && (decide (o = (x.getD 2 U0).toInt) && true))]
theorem i_apart (l : List (List U)) (hl : l.length ≤ 1048576) (a b o : Int) : impl_AreApart.c l a b o = rB (apart l b a o) := by
  rw [impl_AreApart.eq]; (try dsimp +instances only [gr, gi, gl, gb, gt, ui, ul, ub, ut, w64, ln, grd, Ret.i, Ret.l, Ret.b, Ret.t, Ret.ij, Ret.lj, Ret.bj, Ret.tj]); rw [i_has3 _ hl, i_has3 _ hl]
  have e : apart l b a o = ((l.any fun x => decide (a = v0 x) && (decide (b = (x.getD 1 U0).toInt) && (decide (o = (x.getD 2 U0).toInt) && true))) || (l.any fun x => decide (b = v0 x) && (decide (a = (x.getD 1 U0).toInt) && (decide (o = (x.getD 2 U0).toInt) && true)))) := by
    unfold apart
    induction l with
    | nil => rfl
    | cons x xs ih =>
      rw [List.any_cons, List.any_cons, List.any_cons, ih (by simp at hl; omega)]
      simp only [eq_comm (a := a), eq_comm (a := b), eq_comm (a := o), Bool.and_true]
      generalize (xs.any _) = A
      generalize (xs.any _) = B
      cases decide ((x.getD 2 U0).toInt = o) <;> cases decide (v0 x = a) <;> cases decide ((x.getD 1 U0).toInt = b) <;> cases decide (v0 x = b) <;> cases decide ((x.getD 1 U0).toInt = a) <;> cases A <;> cases B <;> rfl
  rw [e]
  cases (l.any fun x => decide (a = v0 x) && (decide (b = (x.getD 1 U0).toInt) && (decide (o = (x.getD 2 U0).toInt) && true))) <;> rfl
/-- Whether a use clashes with one before. -/
def clash (l : List (List U)) (u x : List U) : Bool := decide (v0 u = v0 x) && (decide ((u.getD 2 U0).toInt = (x.getD 2 U0).toInt) && apart l (u.getD 1 U0).toInt (x.getD 1 U0).toInt (u.getD 2 U0).toInt)
def separate (l us : List (List U)) : Bool := (List.range us.length).all fun i => !((us.take i).any fun x => clash l (us.getD i []) x)
theorem s_separate (l us : List (List U)) (hl : l.length ≤ 1048576) (hu : us.length ≤ 1048576) : spec_IsSeparate.c l us = rB (separate l us) := by
  rw [spec_IsSeparate.eq]; (try dsimp +instances only [gr, gi, gl, gb, gt, ui, ul, ub, ut, w64, ln, grd, Ret.i, Ret.l, Ret.b, Ret.t, Ret.ij, Ret.lj, Ret.bj, Ret.tj])
  refine (all_loop2 (l0 := fun i => spec_IsSeparate.l0 l us i) (n := us.length) (p := fun i => !((us.take i).any fun x => clash l (us.getD i []) x)) (b := true) ?_ fun i hi => ?_).trans (by rw [Bool.and_true]; rfl)
  · rw [spec_IsSeparate.l0_eq]; (try dsimp +instances only [gr, gi, gl, gb, gt, ui, ul, ub, ut, w64, ln, grd, Ret.i, Ret.l, Ret.b, Ret.t, Ret.ij, Ret.lj, Ret.bj, Ret.tj]); rw [not_lt_nat (Nat.le_refl _)]; rfl
  · rw [spec_IsSeparate.l0_eq]; (try dsimp +instances only [gr, gi, gl, gb, gt, ui, ul, ub, ut, w64, ln, grd, Ret.i, Ret.l, Ret.b, Ret.t, Ret.ij, Ret.lj, Ret.bj, Ret.tj]); rw [lt_nat hi]
    have htl : (us.take i).length = i := by rw [List.length_take]; omega
    refine (any_loop3 (l0 := fun k => spec_IsSeparate.l1 l us i k) (n := (us.take i).length) (p := fun k => clash l (us.getD i []) ((us.take i).getD k [])) (R := spec_IsSeparate.l0 l us ((i + 1 : Nat) : Int)) (F := rB false) ?_ fun k hk => ?_).trans ?_
    · rw [spec_IsSeparate.l1_eq]; (try dsimp +instances only [gr, gi, gl, gb, gt, ui, ul, ub, ut, w64, ln, grd, Ret.i, Ret.l, Ret.b, Ret.t, Ret.ij, Ret.lj, Ret.bj, Ret.tj]); rw [htl, not_lt_nat (Nat.le_refl _), wrap_nat (n := i) (by omega)]; rfl
    · have e1 : (us.take i).getD k [] = us.getD k [] := by
        rw [List.getD_eq_getElem?_getD, List.getD_eq_getElem?_getD, List.getElem?_take, if_pos (by omega)]
      rw [spec_IsSeparate.l1_eq]; (try dsimp +instances only [gr, gi, gl, gb, gt, ui, ul, ub, ut, w64, ln, grd, Ret.i, Ret.l, Ret.b, Ret.t, Ret.ij, Ret.lj, Ret.bj, Ret.tj]); rw [lt_nat (by omega : k < i), inRange_nat, inRange_nat, decide_eq_true hi, decide_eq_true (by omega), wrap_nat (n := k) (by omega), e1, s_apart _ hl]
      unfold clash
      simp only [Int.toNat_natCast, cond_true, Option.bind_some, Ret.u_mk, List.getD_cons_zero, U.toBool_bool]
      cases decide (v0 (us.getD i []) = v0 (us.getD k []))
      · rfl
      cases decide (((us.getD i []).getD 2 U0).toInt = ((us.getD k []).getD 2 U0).toInt) <;> rfl
    · rw [range_any (us.take i) [] fun x => clash l (us.getD i []) x]
      cases (us.take i).any _ <;> rfl
theorem i_mayDo (l us : List (List U)) (hl : l.length ≤ 1048576) (hu : us.length ≤ 1048576) (u : List U) : impl_MayDo.c l us (v0 u) (u.getD 1 U0).toInt (u.getD 2 U0).toInt = rB (!(us.any fun x => clash l u x)) := by
  have : slices_IndexFunc__impl_MayDo_1.c us (v0 u) (u.getD 2 U0).toInt l (u.getD 1 U0).toInt = rI (pos (fun i => clash l u (us.getD i [])) us.length 0) := by
    rw [slices_IndexFunc__impl_MayDo_1.eq]; (try dsimp +instances only [gr, gi, gl, gb, gt, ui, ul, ub, ut, w64, ln, grd, Ret.i, Ret.l, Ret.b, Ret.t, Ret.ij, Ret.lj, Ret.bj, Ret.tj])
    refine find_loop (l0 := fun i => slices_IndexFunc__impl_MayDo_1.l0 us (v0 u) (u.getD 2 U0).toInt l (u.getD 1 U0).toInt _ i) (n := us.length) (p := fun i => clash l u (us.getD i [])) ?_ fun i hi => ?_
    · rw [slices_IndexFunc__impl_MayDo_1.l0_eq]; (try dsimp +instances only [gr, gi, gl, gb, gt, ui, ul, ub, ut, w64, ln, grd, Ret.i, Ret.l, Ret.b, Ret.t, Ret.ij, Ret.lj, Ret.bj, Ret.tj]); rw [not_lt_nat (Nat.le_refl _)]; rfl
    · rw [slices_IndexFunc__impl_MayDo_1.l0_eq]; (try dsimp +instances only [gr, gi, gl, gb, gt, ui, ul, ub, ut, w64, ln, grd, Ret.i, Ret.l, Ret.b, Ret.t, Ret.ij, Ret.lj, Ret.bj, Ret.tj]); rw [lt_nat hi, inRange_nat, decide_eq_true hi, wrap_nat (by omega), impl_MayDo_1.eq, i_apart _ hl, Int.toNat_natCast]
      unfold clash
      simp only [eq_comm (a := v0 u), eq_comm (a := (u.getD 2 U0).toInt)]
      cases decide (v0 (us.getD i []) = v0 u)
      · rfl
      cases decide (((us.getD i []).getD 2 U0).toInt = (u.getD 2 U0).toInt) <;> rfl
  rw [impl_MayDo.eq, slices_ContainsFunc__impl_MayDo_1.eq]; (try dsimp +instances only [gr, gi, gl, gb, gt, ui, ul, ub, ut, w64, ln, grd, Ret.i, Ret.l, Ret.b, Ret.t, Ret.ij, Ret.lj, Ret.bj, Ret.tj]); rw [this]
  show rB (!decide (pos _ _ _ ≥ 0)) = _
  rw [any_pos (clash l u)]
theorem i_separate (l us : List (List U)) (hl : l.length ≤ 1048576) (hu : us.length ≤ 1048576) : impl_IsSeparate.c l us = rB (separate l us) := by
  rw [impl_IsSeparate.eq]; (try dsimp +instances only [gr, gi, gl, gb, gt, ui, ul, ub, ut, w64, ln, grd, Ret.i, Ret.l, Ret.b, Ret.t, Ret.ij, Ret.lj, Ret.bj, Ret.tj])
  refine (all_loop2 (l0 := fun i => impl_IsSeparate.l0 l us us _ i) (n := us.length) (p := fun i => !((us.take i).any fun x => clash l (us.getD i []) x)) (b := true) ?_ fun i hi => ?_).trans (by rw [Bool.and_true]; rfl)
  · rw [impl_IsSeparate.l0_eq]; (try dsimp +instances only [gr, gi, gl, gb, gt, ui, ul, ub, ut, w64, ln, grd, Ret.i, Ret.l, Ret.b, Ret.t, Ret.ij, Ret.lj, Ret.bj, Ret.tj]); rw [not_lt_nat (Nat.le_refl _)]; rfl
  · have htl : (us.take i).length = i := by rw [List.length_take]; omega
    have e0 : Int.toNat ((i : Int) - 0) = i := by omega
    rw [impl_IsSeparate.l0_eq]; (try dsimp +instances only [gr, gi, gl, gb, gt, ui, ul, ub, ut, w64, ln, grd, Ret.i, Ret.l, Ret.b, Ret.t, Ret.ij, Ret.lj, Ret.bj, Ret.tj]); rw [lt_nat hi, inRange_nat, decide_eq_true hi, wrap_nat (by omega), decide_eq_true (by omega), e0, Int.toNat_natCast]
    show ((impl_MayDo.c l (us.take i) (v0 (us.getD i [])) ((us.getD i []).getD 1 U0).toInt ((us.getD i []).getD 2 U0).toInt).bind _) = _
    rw [i_mayDo l _ hl (by omega)]
    cases (us.take i).any _ <;> rfl
end Go.Proofs.YteahcmobjegpnaaGreat.Eng
