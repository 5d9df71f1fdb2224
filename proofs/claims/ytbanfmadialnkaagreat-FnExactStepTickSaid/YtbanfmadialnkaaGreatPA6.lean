/- Policies, decisions, points. -/
import Derived.Test.YtbanfmadialnkaaGreatPA5
namespace Go.Proofs.YtbanfmadialnkaaGreat.Eng
open Go.RowKit
set_option linter.unusedVariables false
set_option linter.unusedSimpArgs false
set_option linter.unusedSectionVars false
set_option maxRecDepth 100000
variable [Sm]
theorem Ui (hB : Ls) (l s : LL) (hl : l.length ≤ 4611686018427387904) (hs : s.length ≤ 1048576) (p d g ac ob now : Int) : ∀ (n : Nat) (o a b : Int) (xs : LL), FW n o a b xs = true → EU.c o a b xs l s p d g ac ob now = rB (Kh l s p d g now n o a b xs)
 | 0, o, a, b, xs, h => by cases h
 | n + 1, o, a, b, xs, h => by
  have h : (JX o a b xs.length && xs.all fun x => FW n (ui x 0) (ui x 1) (ui x 2) (ul x 3)) = true := h
  rw [Bool.and_eq_true] at h
  obtain ⟨h1, h2⟩ := h
  have hn : (xs.length : Int) = arity o := by
   unfold JX at h1
   rw [Bool.and_eq_true] at h1
   exact of_decide_eq_true h1.1
  have sub : ∀ i : Nat, i < xs.length → EU.c (gi xs i 0) (gi xs i 1) (gi xs i 2) (gl xs i 3) l s p d g ac ob now = rB (Kh l s p d g now n (gi xs i 0) (gi xs i 1) (gi xs i 2) (gl xs i 3)) := fun i hi => by
   have := List.all_eq_true.1 h2 _ (Dg hi (z := []))
   exact Ui hB l s hl hs p d g ac ob now n _ _ _ _ this
  rw [EU.eq]
  by_cases h7 : o = 7
  ·subst h7
   have dV : xs.length = 1 := by have : arity 7 = 1 := rfl; omega
   have s0 := sub 0 (by omega)
   rw [dV]
   show ((EU.c (gi xs 0 0) (gi xs 0 1) (gi xs 0 2) (gl xs 0 3) l s p d g ac ob now).bind _) = _
   rw [show EU.c (gi xs 0 0) (gi xs 0 1) (gi xs 0 2) (gl xs 0 3) l s p d g ac ob now = _ from s0]; rfl
  by_cases h8 : o = 8
  ·subst h8
   have dV : xs.length = 2 := by have : arity 8 = 2 := rfl; omega
   have s0 := sub 0 (by omega)
   have s1 := sub 1 (by omega)
   rw [dV]
   show ((EU.c (gi xs 0 0) (gi xs 0 1) (gi xs 0 2) (gl xs 0 3) l s p d g ac ob now).bind fun r1 => bif r1.b 0 then ((EU.c (gi xs 1 0) (gi xs 1 1) (gi xs 1 2) (gl xs 1 3) l s p d g ac ob now).bind _) else _) = _
   rw [show EU.c (gi xs 0 0) (gi xs 0 1) (gi xs 0 2) (gl xs 0 3) l s p d g ac ob now = _ from s0, show EU.c (gi xs 1 0) (gi xs 1 1) (gi xs 1 2) (gl xs 1 3) l s p d g ac ob now = _ from s1]
   simp only [q0, qb, cB, En]; rfl
  by_cases h9 : o = 9
  ·subst h9
   have dV : xs.length = 2 := by have : arity 9 = 2 := rfl; omega
   have s0 := sub 0 (by omega)
   have s1 := sub 1 (by omega)
   rw [dV]
   show ((EU.c (gi xs 0 0) (gi xs 0 1) (gi xs 0 2) (gl xs 0 3) l s p d g ac ob now).bind fun r1 => bif r1.b 0 then rB true else ((EU.c (gi xs 1 0) (gi xs 1 1) (gi xs 1 2) (gl xs 1 3) l s p d g ac ob now).bind _)) = _
   rw [show EU.c (gi xs 0 0) (gi xs 0 1) (gi xs 0 2) (gl xs 0 3) l s p d g ac ob now = _ from s0, show EU.c (gi xs 1 0) (gi xs 1 1) (gi xs 1 2) (gl xs 1 3) l s p d g ac ob now = _ from s1]
   simp only [q0, qb, cB, TI]; rfl
  rw [decide_eq_false h7, decide_eq_false h8, decide_eq_false h9, Rb.eq, YB hB l s hl hs]
  show rB _ = rB (bif decide (o = 7) then _ else bif decide (o = 8) then _ else bif decide (o = 9) then _ else _)
  rw [decide_eq_false h7, decide_eq_false h8, decide_eq_false h9]; rfl
noncomputable def Kz (l s : LL) (p d g now : Int) (o a b : Int) (xs : LL) : Bool := Kt o a b xs && Kh l s p d g now (Db xs + 1) o a b xs
theorem Ur {o a b : Int} {xs : LL} (h : Kt o a b xs = true) : FW (Db xs + 1) o a b xs = true := by
 unfold Kt at h
 rw [Bool.and_eq_true] at h
 exact h.2
theorem aau (l s : LL) (hl : l.length ≤ 4611686018427387904) (hs : s.length ≤ 4611686018427387904) (o a b : Int) (xs : LL) (hx : Db xs ≤ 1099511627776) (p d g ac ob now : Int) : PR.c l s o a b xs p d g ac ob now = rB (Kz l s p d g now o a b xs) := by
 rw [PR.eq, Vg o a b xs hx]
 simp only [q0, qb]
 unfold Kz
 cases h : Kt o a b xs
 ·rfl
 ·rw [cond_true, Vl l s hl hs p d g ac ob now _ o a b xs (Ur h)]; rfl
theorem Yp (hB : Ls) (l s : LL) (hl : l.length ≤ 4611686018427387904) (hs : s.length ≤ 1048576) (o a b : Int) (xs : LL) (hx : Db xs ≤ 1099511627776) (p d g ac ob now : Int) : NN.c l s o a b xs p d g ac ob now = rB (Kz l s p d g now o a b xs) := by
 rw [NN.eq, Ud o a b xs hx]
 simp only [q0, qb]
 unfold Kz
 cases h : Kt o a b xs
 ·rfl
 ·rw [cond_true, Ui hB l s hl hs p d g ac ob now _ o a b xs (Ur h)]; rfl
def Rp (e a ob o x y : Int) (xs : LL) : Bool := within e 0 1 && (within a (-1) 5 && (bif decide (ob = -1) then Kt o x y xs else (IA ob 4 && Kt o x y xs)))
theorem aaS (e a ob o x y : Int) (xs : LL) (h : Db xs ≤ 1099511627776) : MO.c e a ob o x y xs = rB (Rp e a ob o x y xs) := by
 simp only [MO.eq, IP, Tt, Vg o x y xs h, q0, qb, cB, En]; rfl
theorem YM (e a ob o x y : Int) (xs : LL) (h : Db xs ≤ 1099511627776) : Mh.c e a ob o x y xs = rB (Rp e a ob o x y xs) := by
 simp only [Mh.eq, Hr, Su, Ud o x y xs h, q0, qb, cB, En]; rfl
def JO (x : List U) : Bool := Rp (ui x 0) (ui x 1) (ui x 2) (ui x 3) (ui x 4) (ui x 5) (ul x 6)
def KD (v : Int) (rs : LL) : Bool := rs.all JO && (within v 0 999 && decide (ln rs ≤ 8))
theorem Vp (v : Int) (rs : LL) (h : Db rs ≤ 1099511627776) : IU.c v rs = rB (KD v rs) := by
 have hl := Dk rs
 rw [IU.eq]
 refine (TE (l0 := fun i => IU.l0 i v rs) (n := rs.length) (p := fun i => JO (rs.getD i [])) (b := within v 0 999 && decide (ln rs ≤ 8)) ?_ fun i hi => ?_).trans (by rw [UL rs [] JO]; rfl)
 ·rw [IU.Da, Dj (Nat.le_refl _)]
  simp only [IP, q0, qb, cB, En, cond_false]
 ·have := sub_lt hi 6
  have hr := aaS (ui (rs.getD i []) 0) (ui (rs.getD i []) 1) (ui (rs.getD i []) 2) (ui (rs.getD i []) 3) (ui (rs.getD i []) 4) (ui (rs.getD i []) 5) (ul (rs.getD i []) 6) (by omega)
  rw [IU.Da, Di hi, Dw hi, DG (by omega)]
  show ((MO.c (ui (rs.getD i []) 0) (ui (rs.getD i []) 1) (ui (rs.getD i []) 2) (ui (rs.getD i []) 3) (ui (rs.getD i []) 4) (ui (rs.getD i []) 5) (ul (rs.getD i []) 6)).bind _) = _
  rw [hr]
  show (bif !JO (rs.getD i []) then _ else _) = _
  cases JO (rs.getD i []) <;> rfl
theorem Uk (v : Int) (rs : LL) (h : Db rs ≤ 1099511627776) : Mg.c v rs = rB (KD v rs) := by
 have hl := Dk rs
 have hf : Jo.c rs = rI (Ds rs fun x => !JO x) := by
  rw [Jo.eq]
  refine JG (l0 := fun i => Jo.l0 rs _ i) (n := rs.length) (p := fun i => !JO (rs.getD i [])) ?_ fun i hi => ?_
  ·rw [Jo.Da, Dj (Nat.le_refl _)]; rfl
  ·have := sub_lt hi 6
   have hr := YM (ui (rs.getD i []) 0) (ui (rs.getD i []) 1) (ui (rs.getD i []) 2) (ui (rs.getD i []) 3) (ui (rs.getD i []) 4) (ui (rs.getD i []) 5) (ul (rs.getD i []) 6) (by omega)
   rw [Jo.Da, Di hi, Dw hi, DG (by omega), Rg.eq]
   show (((Mh.c (ui (rs.getD i []) 0) (ui (rs.getD i []) 1) (ui (rs.getD i []) 2) (ui (rs.getD i []) 3) (ui (rs.getD i []) 4) (ui (rs.getD i []) 5) (ul (rs.getD i []) 6)).bind _).bind _) = _
   rw [hr]; rfl
 have e : decide (Ds rs (fun x => !JO x) ≥ 0) = rs.any fun x => !JO x := RN fun x => !JO x
 simp only [Mg.eq, Hr, RE.eq, hf, q0, qb, qi, cB, En]
 show rB (within v 0 999 && (decide (ln rs ≤ 8) && !decide (Ds rs (fun x => !JO x) ≥ 0))) = _
 rw [e]
 unfold KD
 rw [List.all_eq_not_any_not]
 cases rs.any _ <;> cases within v 0 999 <;> cases decide (ln rs ≤ 8) <;> rfl
def KC (a b act obj : Int) : Bool := (decide (a = -1) || decide (a = act)) && (decide (b = -1) || decide (b = obj))
theorem aax (e a b o x y : Int) (xs : LL) (act obj : Int) : PX.c e a b o x y xs act obj = rB (KC a b act obj) := by
 rw [PX.eq]; unfold KC
 cases decide (a = -1) <;> cases decide (a = act) <;> cases decide (b = -1) <;> rfl
theorem Ys (e a b o x y : Int) (xs : LL) (act obj : Int) : NT.c e a b o x y xs act obj = rB (KC a b act obj) := by
 rw [NT.eq]; unfold KC
 cases decide (a = -1) <;> cases decide (a = act) <;> cases decide (b = -1) <;> rfl
noncomputable def PJ (l s : LL) (p d g ac ob now : Int) (x : List U) : Bool := KC (ui x 1) (ui x 2) ac ob && Kz l s p d g now (ui x 3) (ui x 4) (ui x 5) (ul x 6)
noncomputable def Ly (l s rs : LL) (p d g ac ob now : Int) : LL := ((List.range rs.length).filter fun i => PJ l s p d g ac ob now (rs.getD i [])).map fun i : Nat => [U.int (i : Int)]
theorem aaB (l s rs : LL) (v : Int) (hl : l.length ≤ 4611686018427387904) (hs : s.length ≤ 4611686018427387904) (hr : Db rs ≤ 1099511627776) (p d g ac ob now : Int) : Iu.c l s v rs p d g ac ob now = rL (Ly l s rs p d g ac ob now) := by
 have hlen := Dk rs
 rw [Iu.eq]
 refine Lw (l0 := fun i acc => Iu.l0 l s i v rs p d g ac ob now acc) (n := rs.length) (p := fun i => PJ l s p d g ac ob now (rs.getD i [])) (row := fun i => [U.int (i : Int)]) (R := fun acc => rL acc) (fun acc ha => ?_) fun i hi acc ha => ?_
 ·rw [Iu.Da, Dj (Nat.le_refl _)]; rfl
 ·have := sub_lt hi 6
  rw [Iu.Da, Di hi, Dw hi, DG (by omega), aau l s hl hs _ _ _ _ (by show Db (ul (rs.getD i []) 6) ≤ _; omega), aax, Dr (by simp; omega) (by simp; omega)]
  show (bif KC (ui (rs.getD i []) 1) (ui (rs.getD i []) 2) ac ob then (bif Kz l s p d g now (ui (rs.getD i []) 3) (ui (rs.getD i []) 4) (ui (rs.getD i []) 5) (ul (rs.getD i []) 6) then _ else _) else _) = _
  unfold PJ
  cases KC (ui (rs.getD i []) 1) (ui (rs.getD i []) 2) ac ob
  ·rfl
  cases Kz l s p d g now (ui (rs.getD i []) 3) (ui (rs.getD i []) 4) (ui (rs.getD i []) 5) (ul (rs.getD i []) 6) <;> rfl
theorem Yx (hB : Ls) (l s rs : LL) (v : Int) (hl : l.length ≤ 4611686018427387904) (hs : s.length ≤ 1048576) (hr : Db rs ≤ 1099511627776) (p d g ac ob now : Int) : Ip.c l s v rs p d g ac ob now = rL (Ly l s rs p d g ac ob now) := by
 have hlen := Dk rs
 rw [Ip.eq]
 refine Lw (l0 := fun i acc => Ip.l0 l s rs _ i p d g ac ob now acc) (n := rs.length) (p := fun i => PJ l s p d g ac ob now (rs.getD i [])) (row := fun i => [U.int (i : Int)]) (R := fun acc => rL acc) (fun acc ha => ?_) fun i hi acc ha => ?_
 ·rw [Ip.Da, Dj (Nat.le_refl _)]; rfl
 ·have := sub_lt hi 6
  rw [Ip.Da, Di hi, Dw hi, DG (by omega), Yp hB l s hl hs _ _ _ _ (by show Db (ul (rs.getD i []) 6) ≤ _; omega), Ys, Dr (by simp; omega) (by simp; omega)]
  show (bif KC (ui (rs.getD i []) 1) (ui (rs.getD i []) 2) ac ob then (bif Kz l s p d g now (ui (rs.getD i []) 3) (ui (rs.getD i []) 4) (ui (rs.getD i []) 5) (ul (rs.getD i []) 6) then _ else _) else _) = _
  unfold PJ
  cases KC (ui (rs.getD i []) 1) (ui (rs.getD i []) 2) ac ob
  ·rfl
  cases Kz l s p d g now (ui (rs.getD i []) 3) (ui (rs.getD i []) 4) (ui (rs.getD i []) 5) (ul (rs.getD i []) 6) <;> rfl
end Go.Proofs.YtbanfmadialnkaaGreat.Eng
/- half -/
