/- Policies, decisions, points. -/
import Derived.Test.YtbanfmadialnkaaGreatPA5
namespace Go.Proofs.YtbanfmadialnkaaGreat.Eng
open Go.RowKit
set_option linter.unusedVariables false
set_option linter.unusedSimpArgs false
set_option linter.unusedSectionVars false
set_option maxRecDepth 100000
variable [Sm]
theorem Lj (hB : tf) (l s : LL) (hl : l.length ≤ 4611686018427387904) (hs : s.length ≤ 1048576) (p d g ac ob now : Int) : ∀ (n : Nat) (o a b : Int) (xs : LL), fO n o a b xs = true → fc.c o a b xs l s p d g ac ob now = rB (oc l s p d g now n o a b xs)
 | 0, o, a, b, xs, h => by cases h
 | n + 1, o, a, b, xs, h => by
  have h : (nz o a b xs.length && xs.all fun x => fO n (ui x 0) (ui x 1) (ui x 2) (ul x 3)) = true := h
  rw [Bool.and_eq_true] at h
  obtain ⟨h1, h2⟩ := h
  have hn : (xs.length : Int) = arity o := by
   unfold nz at h1
   rw [Bool.and_eq_true] at h1
   exact of_decide_eq_true h1.1
  have sub : ∀ i : Nat, i < xs.length → fc.c (gi xs i 0) (gi xs i 1) (gi xs i 2) (gl xs i 3) l s p d g ac ob now = rB (oc l s p d g now n (gi xs i 0) (gi xs i 1) (gi xs i 2) (gl xs i 3)) := fun i hi => by
   have := List.all_eq_true.1 h2 _ (aZ hi (z := []))
   exact Lj hB l s hl hs p d g ac ob now n _ _ _ _ this
  rw [fc.eq]
  by_cases h7 : o = 7
  ·subst h7
   have dQ : xs.length = 1 := by have : arity 7 = 1 := rfl; omega
   have s0 := sub 0 (by omega)
   rw [dQ]
   show ((fc.c (gi xs 0 0) (gi xs 0 1) (gi xs 0 2) (gl xs 0 3) l s p d g ac ob now).bind _) = _
   rw [show fc.c (gi xs 0 0) (gi xs 0 1) (gi xs 0 2) (gl xs 0 3) l s p d g ac ob now = _ from s0]; rfl
  by_cases h8 : o = 8
  ·subst h8
   have dQ : xs.length = 2 := by have : arity 8 = 2 := rfl; omega
   have s0 := sub 0 (by omega)
   have s1 := sub 1 (by omega)
   rw [dQ]
   show ((fc.c (gi xs 0 0) (gi xs 0 1) (gi xs 0 2) (gl xs 0 3) l s p d g ac ob now).bind fun r1 => bif r1.b 0 then ((fc.c (gi xs 1 0) (gi xs 1 1) (gi xs 1 2) (gl xs 1 3) l s p d g ac ob now).bind _) else _) = _
   rw [show fc.c (gi xs 0 0) (gi xs 0 1) (gi xs 0 2) (gl xs 0 3) l s p d g ac ob now = _ from s0, show fc.c (gi xs 1 0) (gi xs 1 1) (gi xs 1 2) (gl xs 1 3) l s p d g ac ob now = _ from s1]
   simp only [q0, qb, cB, cJ]; rfl
  by_cases h9 : o = 9
  ·subst h9
   have dQ : xs.length = 2 := by have : arity 9 = 2 := rfl; omega
   have s0 := sub 0 (by omega)
   have s1 := sub 1 (by omega)
   rw [dQ]
   show ((fc.c (gi xs 0 0) (gi xs 0 1) (gi xs 0 2) (gl xs 0 3) l s p d g ac ob now).bind fun r1 => bif r1.b 0 then rB true else ((fc.c (gi xs 1 0) (gi xs 1 1) (gi xs 1 2) (gl xs 1 3) l s p d g ac ob now).bind _)) = _
   rw [show fc.c (gi xs 0 0) (gi xs 0 1) (gi xs 0 2) (gl xs 0 3) l s p d g ac ob now = _ from s0, show fc.c (gi xs 1 0) (gi xs 1 1) (gi xs 1 2) (gl xs 1 3) l s p d g ac ob now = _ from s1]
   simp only [q0, qb, cB, KN]; rfl
  rw [decide_eq_false h7, decide_eq_false h8, decide_eq_false h9, Bv.eq, Tm hB l s hl hs]
  show rB _ = rB (bif decide (o = 7) then _ else bif decide (o = 8) then _ else bif decide (o = 9) then _ else _)
  rw [decide_eq_false h7, decide_eq_false h8, decide_eq_false h9]; rfl
noncomputable def pJ (l s : LL) (p d g now : Int) (o a b : Int) (xs : LL) : Bool := od o a b xs && oc l s p d g now (ai xs + 1) o a b xs
theorem Lk {o a b : Int} {xs : LL} (h : od o a b xs = true) : fO (ai xs + 1) o a b xs = true := by
 unfold od at h
 rw [Bool.and_eq_true] at h
 exact h.2
theorem Tn (l s : LL) (hl : l.length ≤ 4611686018427387904) (hs : s.length ≤ 4611686018427387904) (o a b : Int) (xs : LL) (hx : ai xs ≤ 1099511627776) (p d g ac ob now : Int) : yq.c l s o a b xs p d g ac ob now = rB (pJ l s p d g now o a b xs) := by
 rw [yq.eq, Ll o a b xs hx]
 simp only [q0, qb]
 unfold pJ
 cases h : od o a b xs
 ·rfl
 ·rw [cond_true, Lm l s hl hs p d g ac ob now _ o a b xs (Lk h)]; rfl
theorem To (hB : tf) (l s : LL) (hl : l.length ≤ 4611686018427387904) (hs : s.length ≤ 1048576) (o a b : Int) (xs : LL) (hx : ai xs ≤ 1099511627776) (p d g ac ob now : Int) : yy.c l s o a b xs p d g ac ob now = rB (pJ l s p d g now o a b xs) := by
 rw [yy.eq, Ln o a b xs hx]
 simp only [q0, qb]
 unfold pJ
 cases h : od o a b xs
 ·rfl
 ·rw [cond_true, Lj hB l s hl hs p d g ac ob now _ o a b xs (Lk h)]; rfl
def C0 (e a ob o x y : Int) (xs : LL) : Bool := within e 0 1 && (within a (-1) 5 && (bif decide (ob = -1) then od o x y xs else (eL ob 4 && od o x y xs)))
theorem Tp (e a ob o x y : Int) (xs : LL) (h : ai xs ≤ 1099511627776) : um.c e a ob o x y xs = rB (C0 e a ob o x y xs) := by
 simp only [um.eq, eD, tF, Ll o x y xs h, q0, qb, cB, cJ]; rfl
theorem Tq (e a ob o x y : Int) (xs : LL) (h : ai xs ≤ 1099511627776) : ur.c e a ob o x y xs = rB (C0 e a ob o x y xs) := by
 simp only [ur.eq, dZ, wo, Ln o x y xs h, q0, qb, cB, cJ]; rfl
def mT (x : List U) : Bool := C0 (ui x 0) (ui x 1) (ui x 2) (ui x 3) (ui x 4) (ui x 5) (ul x 6)
def tc (v : Int) (rs : LL) : Bool := rs.all mT && (within v 0 999 && decide (ln rs ≤ 8))
theorem KZ (v : Int) (rs : LL) (h : ai rs ≤ 1099511627776) : kB.c v rs = rB (tc v rs) := by
 have hl := bl rs
 rw [kB.eq]
 refine (dr (l0 := fun i => kB.l0 i v rs) (n := rs.length) (p := fun i => mT (rs.getD i [])) (b := within v 0 999 && decide (ln rs ≤ 8)) ?_ fun i hi => ?_).trans (by rw [nF rs [] mT]; rfl)
 ·rw [kB.ah, aQ (Nat.le_refl _)]
  simp only [eD, q0, qb, cB, cJ, cond_false]
 ·have := sub_lt hi 6
  have hr := Tp (ui (rs.getD i []) 0) (ui (rs.getD i []) 1) (ui (rs.getD i []) 2) (ui (rs.getD i []) 3) (ui (rs.getD i []) 4) (ui (rs.getD i []) 5) (ul (rs.getD i []) 6) (by omega)
  rw [kB.ah, aR hi, bo hi, bH (by omega)]
  show ((um.c (ui (rs.getD i []) 0) (ui (rs.getD i []) 1) (ui (rs.getD i []) 2) (ui (rs.getD i []) 3) (ui (rs.getD i []) 4) (ui (rs.getD i []) 5) (ul (rs.getD i []) 6)).bind _) = _
  rw [hr]
  show (bif !mT (rs.getD i []) then _ else _) = _
  cases mT (rs.getD i []) <;> rfl
theorem K1 (v : Int) (rs : LL) (h : ai rs ≤ 1099511627776) : uk.c v rs = rB (tc v rs) := by
 have hl := bl rs
 have hf : lM.c rs = rI (lp rs fun x => !mT x) := by
  rw [lM.eq]
  refine kj (l0 := fun i => lM.l0 rs _ i) (n := rs.length) (p := fun i => !mT (rs.getD i [])) ?_ fun i hi => ?_
  ·rw [lM.ah, aQ (Nat.le_refl _)]; rfl
  ·have := sub_lt hi 6
   have hr := Tq (ui (rs.getD i []) 0) (ui (rs.getD i []) 1) (ui (rs.getD i []) 2) (ui (rs.getD i []) 3) (ui (rs.getD i []) 4) (ui (rs.getD i []) 5) (ul (rs.getD i []) 6) (by omega)
   rw [lM.ah, aR hi, bo hi, bH (by omega), Bp.eq]
   show (((ur.c (ui (rs.getD i []) 0) (ui (rs.getD i []) 1) (ui (rs.getD i []) 2) (ui (rs.getD i []) 3) (ui (rs.getD i []) 4) (ui (rs.getD i []) 5) (ul (rs.getD i []) 6)).bind _).bind _) = _
   rw [hr]; rfl
 have e : decide (lp rs (fun x => !mT x) ≥ 0) = rs.any fun x => !mT x := nH fun x => !mT x
 simp only [uk.eq, dZ, Bm.eq, hf, q0, qb, qi, cB, cJ]
 show rB (within v 0 999 && (decide (ln rs ≤ 8) && !decide (lp rs (fun x => !mT x) ≥ 0))) = _
 rw [e]
 unfold tc
 rw [List.all_eq_not_any_not]
 cases rs.any _ <;> cases within v 0 999 <;> cases decide (ln rs ≤ 8) <;> rfl
def pK (a b act obj : Int) : Bool := (decide (a = -1) || decide (a = act)) && (decide (b = -1) || decide (b = obj))
theorem Tr (e a b o x y : Int) (xs : LL) (act obj : Int) : yp.c e a b o x y xs act obj = rB (pK a b act obj) := by
 rw [yp.eq]; unfold pK
 cases decide (a = -1) <;> cases decide (a = act) <;> cases decide (b = -1) <;> rfl
theorem Ts (e a b o x y : Int) (xs : LL) (act obj : Int) : yx.c e a b o x y xs act obj = rB (pK a b act obj) := by
 rw [yx.eq]; unfold pK
 cases decide (a = -1) <;> cases decide (a = act) <;> cases decide (b = -1) <;> rfl
noncomputable def Ao (l s : LL) (p d g ac ob now : Int) (x : List U) : Bool := pK (ui x 1) (ui x 2) ac ob && pJ l s p d g now (ui x 3) (ui x 4) (ui x 5) (ul x 6)
noncomputable def te (l s rs : LL) (p d g ac ob now : Int) : LL := ((List.range rs.length).filter fun i => Ao l s p d g ac ob now (rs.getD i [])).map fun i : Nat => [U.int (i : Int)]
theorem Tj (l s rs : LL) (v : Int) (hl : l.length ≤ 4611686018427387904) (hs : s.length ≤ 4611686018427387904) (hr : ai rs ≤ 1099511627776) (p d g ac ob now : Int) : jv.c l s v rs p d g ac ob now = rL (te l s rs p d g ac ob now) := by
 have hlen := bl rs
 rw [jv.eq]
 refine sY (l0 := fun i acc => jv.l0 l s i v rs p d g ac ob now acc) (n := rs.length) (p := fun i => Ao l s p d g ac ob now (rs.getD i [])) (row := fun i => [U.int (i : Int)]) (R := fun acc => rL acc) (fun acc ha => ?_) fun i hi acc ha => ?_
 ·rw [jv.ah, aQ (Nat.le_refl _)]; rfl
 ·have := sub_lt hi 6
  rw [jv.ah, aR hi, bo hi, bH (by omega), Tn l s hl hs _ _ _ _ (by show ai (ul (rs.getD i []) 6) ≤ _; omega), Tr, cu (by simp; omega) (by simp; omega)]
  show (bif pK (ui (rs.getD i []) 1) (ui (rs.getD i []) 2) ac ob then (bif pJ l s p d g now (ui (rs.getD i []) 3) (ui (rs.getD i []) 4) (ui (rs.getD i []) 5) (ul (rs.getD i []) 6) then _ else _) else _) = _
  unfold Ao
  cases pK (ui (rs.getD i []) 1) (ui (rs.getD i []) 2) ac ob
  ·rfl
  cases pJ l s p d g now (ui (rs.getD i []) 3) (ui (rs.getD i []) 4) (ui (rs.getD i []) 5) (ul (rs.getD i []) 6) <;> rfl
theorem Tk (hB : tf) (l s rs : LL) (v : Int) (hl : l.length ≤ 4611686018427387904) (hs : s.length ≤ 1048576) (hr : ai rs ≤ 1099511627776) (p d g ac ob now : Int) : jz.c l s v rs p d g ac ob now = rL (te l s rs p d g ac ob now) := by
 have hlen := bl rs
 rw [jz.eq]
 refine sY (l0 := fun i acc => jz.l0 l s rs _ i p d g ac ob now acc) (n := rs.length) (p := fun i => Ao l s p d g ac ob now (rs.getD i [])) (row := fun i => [U.int (i : Int)]) (R := fun acc => rL acc) (fun acc ha => ?_) fun i hi acc ha => ?_
 ·rw [jz.ah, aQ (Nat.le_refl _)]; rfl
 ·have := sub_lt hi 6
  rw [jz.ah, aR hi, bo hi, bH (by omega), To hB l s hl hs _ _ _ _ (by show ai (ul (rs.getD i []) 6) ≤ _; omega), Ts, cu (by simp; omega) (by simp; omega)]
  show (bif pK (ui (rs.getD i []) 1) (ui (rs.getD i []) 2) ac ob then (bif pJ l s p d g now (ui (rs.getD i []) 3) (ui (rs.getD i []) 4) (ui (rs.getD i []) 5) (ul (rs.getD i []) 6) then _ else _) else _) = _
  unfold Ao
  cases pK (ui (rs.getD i []) 1) (ui (rs.getD i []) 2) ac ob
  ·rfl
  cases pJ l s p d g now (ui (rs.getD i []) 3) (ui (rs.getD i []) 4) (ui (rs.getD i []) 5) (ul (rs.getD i []) 6) <;> rfl
end Go.Proofs.YtbanfmadialnkaaGreat.Eng
/- half -/
