/- Policies, decisions, points. -/
import Derived.Test.YtbanfmadialnkaaGreatPA5
namespace Go.Proofs.YtbanfmadialnkaaGreat.Eng
open Go.RowKit
set_option linter.unusedVariables false
set_option linter.unusedSimpArgs false
set_option linter.unusedSectionVars false
set_option maxRecDepth 100000
variable [Sm]
theorem Us (hB : LH) (l s : LL) (hl : l.length ≤ 4611686018427387904) (hs : s.length ≤ 1048576) (p d g ac ob now : Int) : ∀ (n : Nat) (o a b : Int) (xs : LL), Gb n o a b xs = true → EV.c o a b xs l s p d g ac ob now = rB (Kr l s p d g now n o a b xs)
 | 0, o, a, b, xs, h => by cases h
 | n + 1, o, a, b, xs, h => by
  have h : (Ke o a b xs.length && xs.all fun x => Gb n (ui x 0) (ui x 1) (ui x 2) (ul x 3)) = true := h
  rw [Bool.and_eq_true] at h
  obtain ⟨h1, h2⟩ := h
  have hn : (xs.length : Int) = arity o := by
   unfold Ke at h1
   rw [Bool.and_eq_true] at h1
   exact of_decide_eq_true h1.1
  have sub : ∀ i : Nat, i < xs.length → EV.c (gi xs i 0) (gi xs i 1) (gi xs i 2) (gl xs i 3) l s p d g ac ob now = rB (Kr l s p d g now n (gi xs i 0) (gi xs i 1) (gi xs i 2) (gl xs i 3)) := fun i hi => by
   have := List.all_eq_true.1 h2 _ (De hi (z := []))
   exact Us hB l s hl hs p d g ac ob now n _ _ _ _ this
  rw [EV.eq]
  by_cases h7 : o = 7
  ·subst h7
   have dV : xs.length = 1 := by have : arity 7 = 1 := rfl; omega
   have s0 := sub 0 (by omega)
   rw [dV]
   show ((EV.c (gi xs 0 0) (gi xs 0 1) (gi xs 0 2) (gl xs 0 3) l s p d g ac ob now).bind _) = _
   rw [show EV.c (gi xs 0 0) (gi xs 0 1) (gi xs 0 2) (gl xs 0 3) l s p d g ac ob now = _ from s0]; rfl
  by_cases h8 : o = 8
  ·subst h8
   have dV : xs.length = 2 := by have : arity 8 = 2 := rfl; omega
   have s0 := sub 0 (by omega)
   have s1 := sub 1 (by omega)
   rw [dV]
   show ((EV.c (gi xs 0 0) (gi xs 0 1) (gi xs 0 2) (gl xs 0 3) l s p d g ac ob now).bind fun r1 => bif r1.b 0 then ((EV.c (gi xs 1 0) (gi xs 1 1) (gi xs 1 2) (gl xs 1 3) l s p d g ac ob now).bind _) else _) = _
   rw [show EV.c (gi xs 0 0) (gi xs 0 1) (gi xs 0 2) (gl xs 0 3) l s p d g ac ob now = _ from s0, show EV.c (gi xs 1 0) (gi xs 1 1) (gi xs 1 2) (gl xs 1 3) l s p d g ac ob now = _ from s1]
   simp only [q0, qb, cB, Er]; rfl
  by_cases h9 : o = 9
  ·subst h9
   have dV : xs.length = 2 := by have : arity 9 = 2 := rfl; omega
   have s0 := sub 0 (by omega)
   have s1 := sub 1 (by omega)
   rw [dV]
   show ((EV.c (gi xs 0 0) (gi xs 0 1) (gi xs 0 2) (gl xs 0 3) l s p d g ac ob now).bind fun r1 => bif r1.b 0 then rB true else ((EV.c (gi xs 1 0) (gi xs 1 1) (gi xs 1 2) (gl xs 1 3) l s p d g ac ob now).bind _)) = _
   rw [show EV.c (gi xs 0 0) (gi xs 0 1) (gi xs 0 2) (gl xs 0 3) l s p d g ac ob now = _ from s0, show EV.c (gi xs 1 0) (gi xs 1 1) (gi xs 1 2) (gl xs 1 3) l s p d g ac ob now = _ from s1]
   simp only [q0, qb, cB, TR]; rfl
  rw [decide_eq_false h7, decide_eq_false h8, decide_eq_false h9, Rw.eq, YV hB l s hl hs]
  show rB _ = rB (bif decide (o = 7) then _ else bif decide (o = 8) then _ else bif decide (o = 9) then _ else _)
  rw [decide_eq_false h7, decide_eq_false h8, decide_eq_false h9]; rfl
noncomputable def KB (l s : LL) (p d g now : Int) (o a b : Int) (xs : LL) : Bool := Kv o a b xs && Kr l s p d g now (Db xs + 1) o a b xs
theorem UB {o a b : Int} {xs : LL} (h : Kv o a b xs = true) : Gb (Db xs + 1) o a b xs = true := by
 unfold Kv at h
 rw [Bool.and_eq_true] at h
 exact h.2
theorem aaF (l s : LL) (hl : l.length ≤ 4611686018427387904) (hs : s.length ≤ 4611686018427387904) (o a b : Int) (xs : LL) (hx : Db xs ≤ 1099511627776) (p d g ac ob now : Int) : Qi.c l s o a b xs p d g ac ob now = rB (KB l s p d g now o a b xs) := by
 rw [Qi.eq, Vp o a b xs hx]
 simp only [q0, qb]
 unfold KB
 cases h : Kv o a b xs
 ·rfl
 ·rw [cond_true, Vt l s hl hs p d g ac ob now _ o a b xs (UB h)]; rfl
theorem YK (hB : LH) (l s : LL) (hl : l.length ≤ 4611686018427387904) (hs : s.length ≤ 1048576) (o a b : Int) (xs : LL) (hx : Db xs ≤ 1099511627776) (p d g ac ob now : Int) : Oc.c l s o a b xs p d g ac ob now = rB (KB l s p d g now o a b xs) := by
 rw [Oc.eq, Uo o a b xs hx]
 simp only [q0, qb]
 unfold KB
 cases h : Kv o a b xs
 ·rfl
 ·rw [cond_true, Us hB l s hl hs p d g ac ob now _ o a b xs (UB h)]; rfl
def RK (e a ob o x y : Int) (xs : LL) : Bool := within e 0 1 && (within a (-1) 5 && (bif decide (ob = -1) then Kv o x y xs else (Io ob 4 && Kv o x y xs)))
theorem aa0 (e a ob o x y : Int) (xs : LL) (h : Db xs ≤ 1099511627776) : Ng.c e a ob o x y xs = rB (RK e a ob o x y xs) := by
 simp only [Ng.eq, IU, TE, Vp o x y xs h, q0, qb, cB, Er]; rfl
theorem Ze (e a ob o x y : Int) (xs : LL) (h : Db xs ≤ 1099511627776) : MB.c e a ob o x y xs = rB (RK e a ob o x y xs) := by
 simp only [MB.eq, Hv, SN, Uo o x y xs h, q0, qb, cB, Er]; rfl
def JO (x : List U) : Bool := RK (ui x 0) (ui x 1) (ui x 2) (ui x 3) (ui x 4) (ui x 5) (ul x 6)
def Kb (v : Int) (rs : LL) : Bool := rs.all JO && (within v 0 999 && decide (ln rs ≤ 8))
theorem Vx (v : Int) (rs : LL) (h : Db rs ≤ 1099511627776) : IX.c v rs = rB (Kb v rs) := by
 have hl := Dk rs
 rw [IX.eq]
 refine (QT (l0 := fun i => IX.l0 i v rs) (n := rs.length) (p := fun i => JO (rs.getD i [])) (b := within v 0 999 && decide (ln rs ≤ 8)) ?_ fun i hi => ?_).trans (by rw [UU rs [] JO]; rfl)
 ·rw [IX.Da, Dj (Nat.le_refl _)]
  simp only [IU, q0, qb, cB, Er, cond_false]
 ·have := sub_lt hi 6
  have hr := aa0 (ui (rs.getD i []) 0) (ui (rs.getD i []) 1) (ui (rs.getD i []) 2) (ui (rs.getD i []) 3) (ui (rs.getD i []) 4) (ui (rs.getD i []) 5) (ul (rs.getD i []) 6) (by omega)
  rw [IX.Da, Di hi, DE hi, DJ (by omega)]
  show ((Ng.c (ui (rs.getD i []) 0) (ui (rs.getD i []) 1) (ui (rs.getD i []) 2) (ui (rs.getD i []) 3) (ui (rs.getD i []) 4) (ui (rs.getD i []) 5) (ul (rs.getD i []) 6)).bind _) = _
  rw [hr]
  show (bif !JO (rs.getD i []) then _ else _) = _
  cases JO (rs.getD i []) <;> rfl
theorem Uu (v : Int) (rs : LL) (h : Db rs ≤ 1099511627776) : MA.c v rs = rB (Kb v rs) := by
 have hl := Dk rs
 have hf : Jt.c rs = rI (DC rs fun x => !JO x) := by
  rw [Jt.eq]
  refine Ks (l0 := fun i => Jt.l0 rs _ i) (n := rs.length) (p := fun i => !JO (rs.getD i [])) ?_ fun i hi => ?_
  ·rw [Jt.Da, Dj (Nat.le_refl _)]; rfl
  ·have := sub_lt hi 6
   have hr := Ze (ui (rs.getD i []) 0) (ui (rs.getD i []) 1) (ui (rs.getD i []) 2) (ui (rs.getD i []) 3) (ui (rs.getD i []) 4) (ui (rs.getD i []) 5) (ul (rs.getD i []) 6) (by omega)
   rw [Jt.Da, Di hi, DE hi, DJ (by omega), RA.eq]
   show (((MB.c (ui (rs.getD i []) 0) (ui (rs.getD i []) 1) (ui (rs.getD i []) 2) (ui (rs.getD i []) 3) (ui (rs.getD i []) 4) (ui (rs.getD i []) 5) (ul (rs.getD i []) 6)).bind _).bind _) = _
   rw [hr]; rfl
 have e : decide (DC rs (fun x => !JO x) ≥ 0) = rs.any fun x => !JO x := Si fun x => !JO x
 simp only [MA.eq, Hv, Sc.eq, hf, q0, qb, qi, cB, Er]
 show rB (within v 0 999 && (decide (ln rs ≤ 8) && !decide (DC rs (fun x => !JO x) ≥ 0))) = _
 rw [e]
 unfold Kb
 rw [List.all_eq_not_any_not]
 cases rs.any _ <;> cases within v 0 999 <;> cases decide (ln rs ≤ 8) <;> rfl
def KO (a b act obj : Int) : Bool := (decide (a = -1) || decide (a = act)) && (decide (b = -1) || decide (b = obj))
theorem aaI (e a b o x y : Int) (xs : LL) (act obj : Int) : Qm.c e a b o x y xs act obj = rB (KO a b act obj) := by
 rw [Qm.eq]; unfold KO
 cases decide (a = -1) <;> cases decide (a = act) <;> cases decide (b = -1) <;> rfl
theorem YN (e a b o x y : Int) (xs : LL) (act obj : Int) : Oj.c e a b o x y xs act obj = rB (KO a b act obj) := by
 rw [Oj.eq]; unfold KO
 cases decide (a = -1) <;> cases decide (a = act) <;> cases decide (b = -1) <;> rfl
noncomputable def Qb (l s : LL) (p d g ac ob now : Int) (x : List U) : Bool := KO (ui x 1) (ui x 2) ac ob && KB l s p d g now (ui x 3) (ui x 4) (ui x 5) (ul x 6)
noncomputable def LR (l s rs : LL) (p d g ac ob now : Int) : LL := ((List.range rs.length).filter fun i => Qb l s p d g ac ob now (rs.getD i [])).map fun i : Nat => [U.int (i : Int)]
theorem aaL (l s rs : LL) (v : Int) (hl : l.length ≤ 4611686018427387904) (hs : s.length ≤ 4611686018427387904) (hr : Db rs ≤ 1099511627776) (p d g ac ob now : Int) : ID.c l s v rs p d g ac ob now = rL (LR l s rs p d g ac ob now) := by
 have hlen := Dk rs
 rw [ID.eq]
 refine LP (l0 := fun i acc => ID.l0 l s i v rs p d g ac ob now acc) (n := rs.length) (p := fun i => Qb l s p d g ac ob now (rs.getD i [])) (row := fun i => [U.int (i : Int)]) (R := fun acc => rL acc) (fun acc ha => ?_) fun i hi acc ha => ?_
 ·rw [ID.Da, Dj (Nat.le_refl _)]; rfl
 ·have := sub_lt hi 6
  rw [ID.Da, Di hi, DE hi, DJ (by omega), aaF l s hl hs _ _ _ _ (by show Db (ul (rs.getD i []) 6) ≤ _; omega), aaI, Dq (by simp; omega) (by simp; omega)]
  show (bif KO (ui (rs.getD i []) 1) (ui (rs.getD i []) 2) ac ob then (bif KB l s p d g now (ui (rs.getD i []) 3) (ui (rs.getD i []) 4) (ui (rs.getD i []) 5) (ul (rs.getD i []) 6) then _ else _) else _) = _
  unfold Qb
  cases KO (ui (rs.getD i []) 1) (ui (rs.getD i []) 2) ac ob
  ·rfl
  cases KB l s p d g now (ui (rs.getD i []) 3) (ui (rs.getD i []) 4) (ui (rs.getD i []) 5) (ul (rs.getD i []) 6) <;> rfl
theorem YR (hB : LH) (l s rs : LL) (v : Int) (hl : l.length ≤ 4611686018427387904) (hs : s.length ≤ 1048576) (hr : Db rs ≤ 1099511627776) (p d g ac ob now : Int) : Iw.c l s v rs p d g ac ob now = rL (LR l s rs p d g ac ob now) := by
 have hlen := Dk rs
 rw [Iw.eq]
 refine LP (l0 := fun i acc => Iw.l0 l s rs _ i p d g ac ob now acc) (n := rs.length) (p := fun i => Qb l s p d g ac ob now (rs.getD i [])) (row := fun i => [U.int (i : Int)]) (R := fun acc => rL acc) (fun acc ha => ?_) fun i hi acc ha => ?_
 ·rw [Iw.Da, Dj (Nat.le_refl _)]; rfl
 ·have := sub_lt hi 6
  rw [Iw.Da, Di hi, DE hi, DJ (by omega), YK hB l s hl hs _ _ _ _ (by show Db (ul (rs.getD i []) 6) ≤ _; omega), YN, Dq (by simp; omega) (by simp; omega)]
  show (bif KO (ui (rs.getD i []) 1) (ui (rs.getD i []) 2) ac ob then (bif KB l s p d g now (ui (rs.getD i []) 3) (ui (rs.getD i []) 4) (ui (rs.getD i []) 5) (ul (rs.getD i []) 6) then _ else _) else _) = _
  unfold Qb
  cases KO (ui (rs.getD i []) 1) (ui (rs.getD i []) 2) ac ob
  ·rfl
  cases KB l s p d g now (ui (rs.getD i []) 3) (ui (rs.getD i []) 4) (ui (rs.getD i []) 5) (ul (rs.getD i []) 6) <;> rfl
end Go.Proofs.YtbanfmadialnkaaGreat.Eng
/- half -/
