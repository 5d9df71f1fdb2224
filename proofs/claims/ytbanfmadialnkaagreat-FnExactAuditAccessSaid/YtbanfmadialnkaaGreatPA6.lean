/- Policies, decisions, points. -/
import Derived.Test.YtbanfmadialnkaaGreatPA5
namespace Go.Proofs.YtbanfmadialnkaaGreat.Eng
open Go.RowKit
set_option linter.unusedVariables false
set_option linter.unusedSimpArgs false
set_option linter.unusedSectionVars false
set_option maxRecDepth 100000
variable [Sm]
theorem Tv (hB : Kn) (l s : LL) (hl : l.length ≤ 4611686018427387904) (hs : s.length ≤ 1048576) (p d g ac ob now : Int) : ∀ (n : Nat) (o a b : Int) (xs : LL), FC n o a b xs = true → EV.c o a b xs l s p d g ac ob now = rB (Jp l s p d g now n o a b xs)
 | 0, o, a, b, xs, h => by cases h
 | n + 1, o, a, b, xs, h => by
  have h : (Jj o a b xs.length && xs.all fun x => FC n (ui x 0) (ui x 1) (ui x 2) (ul x 3)) = true := h
  rw [Bool.and_eq_true] at h
  obtain ⟨h1, h2⟩ := h
  have hn : (xs.length : Int) = arity o := by
   unfold Jj at h1
   rw [Bool.and_eq_true] at h1
   exact of_decide_eq_true h1.1
  have sub : ∀ i : Nat, i < xs.length → EV.c (gi xs i 0) (gi xs i 1) (gi xs i 2) (gl xs i 3) l s p d g ac ob now = rB (Jp l s p d g now n (gi xs i 0) (gi xs i 1) (gi xs i 2) (gl xs i 3)) := fun i hi => by
   have := List.all_eq_true.1 h2 _ (Du hi (z := []))
   exact Tv hB l s hl hs p d g ac ob now n _ _ _ _ this
  rw [EV.eq]
  by_cases h7 : o = 7
  ·subst h7
   have dV : xs.length = 1 := by have : arity 7 = 1 := rfl; omega
   have s0 := sub 0 (by omega)
   rw [dV]
   show ((EV.c (gi xs 0 0) (gi xs 0 1) (gi xs 0 2) (gl xs 0 3) l s p d g ac ob now).bind _) = _
   rw [show EV.c (gi xs 0 0) (gi xs 0 1) (gi xs 0 2) (gl xs 0 3) l s p d g ac ob now = _ from s0]; rfl
  by_cases h8 : o = 8
  ·subst h8
   have dV : xs.length = 2 := by have : arity 8 = 2 := rfl; omega
   have s0 := sub 0 (by omega)
   have s1 := sub 1 (by omega)
   rw [dV]
   show ((EV.c (gi xs 0 0) (gi xs 0 1) (gi xs 0 2) (gl xs 0 3) l s p d g ac ob now).bind fun r1 => bif r1.b 0 then ((EV.c (gi xs 1 0) (gi xs 1 1) (gi xs 1 2) (gl xs 1 3) l s p d g ac ob now).bind _) else _) = _
   rw [show EV.c (gi xs 0 0) (gi xs 0 1) (gi xs 0 2) (gl xs 0 3) l s p d g ac ob now = _ from s0, show EV.c (gi xs 1 0) (gi xs 1 1) (gi xs 1 2) (gl xs 1 3) l s p d g ac ob now = _ from s1]
   simp only [q0, qb, cB, DR]; rfl
  by_cases h9 : o = 9
  ·subst h9
   have dV : xs.length = 2 := by have : arity 9 = 2 := rfl; omega
   have s0 := sub 0 (by omega)
   have s1 := sub 1 (by omega)
   rw [dV]
   show ((EV.c (gi xs 0 0) (gi xs 0 1) (gi xs 0 2) (gl xs 0 3) l s p d g ac ob now).bind fun r1 => bif r1.b 0 then rB true else ((EV.c (gi xs 1 0) (gi xs 1 1) (gi xs 1 2) (gl xs 1 3) l s p d g ac ob now).bind _)) = _
   rw [show EV.c (gi xs 0 0) (gi xs 0 1) (gi xs 0 2) (gl xs 0 3) l s p d g ac ob now = _ from s0, show EV.c (gi xs 1 0) (gi xs 1 1) (gi xs 1 2) (gl xs 1 3) l s p d g ac ob now = _ from s1]
   simp only [q0, qb, cB, Ta]; rfl
  rw [decide_eq_false h7, decide_eq_false h8, decide_eq_false h9, Qe.eq, XW hB l s hl hs]
  show rB _ = rB (bif decide (o = 7) then _ else bif decide (o = 8) then _ else bif decide (o = 9) then _ else _)
  rw [decide_eq_false h7, decide_eq_false h8, decide_eq_false h9]; rfl
noncomputable def JB (l s : LL) (p d g now : Int) (o a b : Int) (xs : LL) : Bool := Jq o a b xs && Jp l s p d g now (Da xs + 1) o a b xs
theorem TK {o a b : Int} {xs : LL} (h : Jq o a b xs = true) : FC (Da xs + 1) o a b xs = true := by
 unfold Jq at h
 rw [Bool.and_eq_true] at h
 exact h.2
theorem aat (l s : LL) (hl : l.length ≤ 4611686018427387904) (hs : s.length ≤ 4611686018427387904) (o a b : Int) (xs : LL) (hx : Da xs ≤ 1099511627776) (p d g ac ob now : Int) : OY.c l s o a b xs p d g ac ob now = rB (JB l s p d g now o a b xs) := by
 rw [OY.eq, UD o a b xs hx]
 simp only [q0, qb]
 unfold JB
 cases h : Jq o a b xs
 ·rfl
 ·rw [cond_true, UF l s hl hs p d g ac ob now _ o a b xs (TK h)]; rfl
theorem XO (hB : Kn) (l s : LL) (hl : l.length ≤ 4611686018427387904) (hs : s.length ≤ 1048576) (o a b : Int) (xs : LL) (hx : Da xs ≤ 1099511627776) (p d g ac ob now : Int) : MG.c l s o a b xs p d g ac ob now = rB (JB l s p d g now o a b xs) := by
 rw [MG.eq, Tt o a b xs hx]
 simp only [q0, qb]
 unfold JB
 cases h : Jq o a b xs
 ·rfl
 ·rw [cond_true, Tv hB l s hl hs p d g ac ob now _ o a b xs (TK h)]; rfl
def Qw (e a ob o x y : Int) (xs : LL) : Bool := within e 0 1 && (within a (-1) 5 && (bif decide (ob = -1) then Jq o x y xs else (EL ob 4 && Jq o x y xs)))
theorem aaQ (e a ob o x y : Int) (xs : LL) (h : Da xs ≤ 1099511627776) : LQ.c e a ob o x y xs = rB (Qw e a ob o x y xs) := by
 simp only [LQ.eq, EI, LJ, UD o x y xs h, q0, qb, cB, DR]; rfl
theorem Yj (e a ob o x y : Int) (xs : LL) (h : Da xs ≤ 1099511627776) : Lp.c e a ob o x y xs = rB (Qw e a ob o x y xs) := by
 simp only [Lp.eq, Ez, MA, Tt o x y xs h, q0, qb, cB, DR]; rfl
def IP (x : List U) : Bool := Qw (ui x 0) (ui x 1) (ui x 2) (ui x 3) (ui x 4) (ui x 5) (ul x 6)
def KD (v : Int) (rs : LL) : Bool := rs.all IP && (within v 0 999 && decide (ln rs ≤ 8))
theorem UM (v : Int) (rs : LL) (h : Da rs ≤ 1099511627776) : HY.c v rs = rB (KD v rs) := by
 have hl := DA rs
 rw [HY.eq]
 refine (Ee (l0 := fun i => HY.l0 i v rs) (n := rs.length) (p := fun i => IP (rs.getD i [])) (b := within v 0 999 && decide (ln rs ≤ 8)) ?_ fun i hi => ?_).trans (by rw [Jv rs [] IP]; rfl)
 ·rw [HY.CZ, Dq (Nat.le_refl _)]
  simp only [EI, q0, qb, cB, DR, cond_false]
 ·have := sub_lt hi 6
  have hr := aaQ (ui (rs.getD i []) 0) (ui (rs.getD i []) 1) (ui (rs.getD i []) 2) (ui (rs.getD i []) 3) (ui (rs.getD i []) 4) (ui (rs.getD i []) 5) (ul (rs.getD i []) 6) (by omega)
  rw [HY.CZ, Dr hi, DB hi, DG (by omega)]
  show ((LQ.c (ui (rs.getD i []) 0) (ui (rs.getD i []) 1) (ui (rs.getD i []) 2) (ui (rs.getD i []) 3) (ui (rs.getD i []) 4) (ui (rs.getD i []) 5) (ul (rs.getD i []) 6)).bind _) = _
  rw [hr]
  show (bif !IP (rs.getD i []) then _ else _) = _
  cases IP (rs.getD i []) <;> rfl
theorem TA (v : Int) (rs : LL) (h : Da rs ≤ 1099511627776) : Lo.c v rs = rB (KD v rs) := by
 have hl := DA rs
 have hf : It.c rs = rI (Im rs fun x => !IP x) := by
  rw [It.eq]
  refine Hs (l0 := fun i => It.l0 rs _ i) (n := rs.length) (p := fun i => !IP (rs.getD i [])) ?_ fun i hi => ?_
  ·rw [It.CZ, Dq (Nat.le_refl _)]; rfl
  ·have := sub_lt hi 6
   have hr := Yj (ui (rs.getD i []) 0) (ui (rs.getD i []) 1) (ui (rs.getD i []) 2) (ui (rs.getD i []) 3) (ui (rs.getD i []) 4) (ui (rs.getD i []) 5) (ul (rs.getD i []) 6) (by omega)
   rw [It.CZ, Dr hi, DB hi, DG (by omega), Qi.eq]
   show (((Lp.c (ui (rs.getD i []) 0) (ui (rs.getD i []) 1) (ui (rs.getD i []) 2) (ui (rs.getD i []) 3) (ui (rs.getD i []) 4) (ui (rs.getD i []) 5) (ul (rs.getD i []) 6)).bind _).bind _) = _
   rw [hr]; rfl
 have e : decide (Im rs (fun x => !IP x) ≥ 0) = rs.any fun x => !IP x := Jn fun x => !IP x
 simp only [Lo.eq, Ez, QJ.eq, hf, q0, qb, qi, cB, DR]
 show rB (within v 0 999 && (decide (ln rs ≤ 8) && !decide (Im rs (fun x => !IP x) ≥ 0))) = _
 rw [e]
 unfold KD
 rw [List.all_eq_not_any_not]
 cases rs.any _ <;> cases within v 0 999 <;> cases decide (ln rs ≤ 8) <;> rfl
def JF (a b act obj : Int) : Bool := (decide (a = -1) || decide (a = act)) && (decide (b = -1) || decide (b = obj))
theorem aav (e a b o x y : Int) (xs : LL) (act obj : Int) : Pc.c e a b o x y xs act obj = rB (JF a b act obj) := by
 rw [Pc.eq]; unfold JF
 cases decide (a = -1) <;> cases decide (a = act) <;> cases decide (b = -1) <;> rfl
theorem XQ (e a b o x y : Int) (xs : LL) (act obj : Int) : ML.c e a b o x y xs act obj = rB (JF a b act obj) := by
 rw [ML.eq]; unfold JF
 cases decide (a = -1) <;> cases decide (a = act) <;> cases decide (b = -1) <;> rfl
noncomputable def Oz (l s : LL) (p d g ac ob now : Int) (x : List U) : Bool := JF (ui x 1) (ui x 2) ac ob && JB l s p d g now (ui x 3) (ui x 4) (ui x 5) (ul x 6)
noncomputable def Kt (l s rs : LL) (p d g ac ob now : Int) : LL := ((List.range rs.length).filter fun i => Oz l s p d g ac ob now (rs.getD i [])).map fun i : Nat => [U.int (i : Int)]
theorem aay (l s rs : LL) (v : Int) (hl : l.length ≤ 4611686018427387904) (hs : s.length ≤ 4611686018427387904) (hr : Da rs ≤ 1099511627776) (p d g ac ob now : Int) : Hm.c l s v rs p d g ac ob now = rL (Kt l s rs p d g ac ob now) := by
 have hlen := DA rs
 rw [Hm.eq]
 refine Ks (l0 := fun i acc => Hm.l0 l s i v rs p d g ac ob now acc) (n := rs.length) (p := fun i => Oz l s p d g ac ob now (rs.getD i [])) (row := fun i => [U.int (i : Int)]) (R := fun acc => rL acc) (fun acc ha => ?_) fun i hi acc ha => ?_
 ·rw [Hm.CZ, Dq (Nat.le_refl _)]; rfl
 ·have := sub_lt hi 6
  rw [Hm.CZ, Dr hi, DB hi, DG (by omega), aat l s hl hs _ _ _ _ (by show Da (ul (rs.getD i []) 6) ≤ _; omega), aav, DM (by simp; omega) (by simp; omega)]
  show (bif JF (ui (rs.getD i []) 1) (ui (rs.getD i []) 2) ac ob then (bif JB l s p d g now (ui (rs.getD i []) 3) (ui (rs.getD i []) 4) (ui (rs.getD i []) 5) (ul (rs.getD i []) 6) then _ else _) else _) = _
  unfold Oz
  cases JF (ui (rs.getD i []) 1) (ui (rs.getD i []) 2) ac ob
  ·rfl
  cases JB l s p d g now (ui (rs.getD i []) 3) (ui (rs.getD i []) 4) (ui (rs.getD i []) 5) (ul (rs.getD i []) 6) <;> rfl
theorem XS (hB : Kn) (l s rs : LL) (v : Int) (hl : l.length ≤ 4611686018427387904) (hs : s.length ≤ 1048576) (hr : Da rs ≤ 1099511627776) (p d g ac ob now : Int) : Hf.c l s v rs p d g ac ob now = rL (Kt l s rs p d g ac ob now) := by
 have hlen := DA rs
 rw [Hf.eq]
 refine Ks (l0 := fun i acc => Hf.l0 l s rs _ i p d g ac ob now acc) (n := rs.length) (p := fun i => Oz l s p d g ac ob now (rs.getD i [])) (row := fun i => [U.int (i : Int)]) (R := fun acc => rL acc) (fun acc ha => ?_) fun i hi acc ha => ?_
 ·rw [Hf.CZ, Dq (Nat.le_refl _)]; rfl
 ·have := sub_lt hi 6
  rw [Hf.CZ, Dr hi, DB hi, DG (by omega), XO hB l s hl hs _ _ _ _ (by show Da (ul (rs.getD i []) 6) ≤ _; omega), XQ, DM (by simp; omega) (by simp; omega)]
  show (bif JF (ui (rs.getD i []) 1) (ui (rs.getD i []) 2) ac ob then (bif JB l s p d g now (ui (rs.getD i []) 3) (ui (rs.getD i []) 4) (ui (rs.getD i []) 5) (ul (rs.getD i []) 6) then _ else _) else _) = _
  unfold Oz
  cases JF (ui (rs.getD i []) 1) (ui (rs.getD i []) 2) ac ob
  ·rfl
  cases JB l s p d g now (ui (rs.getD i []) 3) (ui (rs.getD i []) 4) (ui (rs.getD i []) 5) (ul (rs.getD i []) 6) <;> rfl
end Go.Proofs.YtbanfmadialnkaaGreat.Eng
/- half -/
