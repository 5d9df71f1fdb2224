/- Conditions: whether they are valid, whether they hold. -/
import Derived.Test.YtbanfmadialnkaaGreatPA3
namespace Go.Proofs.YtbanfmadialnkaaGreat.Eng
open Go.RowKit
set_option linter.unusedVariables false
set_option linter.unusedSimpArgs false
set_option linter.unusedSectionVars false
set_option maxRecDepth 100000
variable [Sm]
theorem QW : ∀ (x : List U) (k : Nat), Db (ul x k) ≤ Dp x
 | [], k => by simp [ul, Db, U.bX]
 | u :: us, 0 => by
  simp only [ul, List.getD_cons_zero, Dp]
  cases u <;> simp [U.bX, Db, Ds]
 | u :: us, k + 1 => by
  have := QW us k
  simp only [ul, List.getD_cons_succ, Dp] at this ⊢
  omega
theorem sub_lt {xs : LL} {i : Nat} (hi : i < xs.length) (k : Nat) : Db (ul (xs.getD i []) k) < Db xs :=
 Nat.lt_of_le_of_lt (QW _ k) (DH (De hi (z := [])))
def arity (o : Int) : Int := bif decide (o = 7) then 1 else bif decide (o = 8) then 2 else bif decide (o = 9) then 2 else bif within o 1 6 then 0 else -1
theorem Yu (o : Int) : Ge.c o = rI (arity o) := by simp only [Ge.eq, Hv, q0, qb, cI]; rfl
theorem aap (o : Int) : Gt.c o = rI (arity o) := by
 rw [Gt.eq]
 unfold arity
 by_cases h1 : o = 1
 ·subst h1; rfl
 by_cases h2 : o = 2
 ·subst h2; rfl
 by_cases h3 : o = 3
 ·subst h3; rfl
 by_cases h4 : o = 4
 ·subst h4; rfl
 by_cases h5 : o = 5
 ·subst h5; rfl
 by_cases h6 : o = 6
 ·subst h6; rfl
 have h : within o 1 6 = false := by
  rw [Bool.eq_false_iff]; intro hh
  have := En hh
  omega
 simp only [decide_eq_false h1, decide_eq_false h2, decide_eq_false h3, decide_eq_false h4, decide_eq_false h5, decide_eq_false h6, h, cond_false]
 cases decide (o = 7) <;> cases decide (o = 8) <;> cases decide (o = 9) <;> rfl
def Sh (o : Int) : Int := bif decide (o = 2) then 5 else bif decide (o = 4) then 3 else bif decide (o = 5) then 3 else bif decide (o = 6) then 10000 else 0
def Sv (o : Int) : Int := bif within o 2 5 then 10000 else 0
def Ke (o a b n : Int) : Bool := decide (n = arity o) && (within a 0 (Sh o) && within b 0 (Sv o))
theorem acu (a : Int) : within a 0 0 = decide (a = 0) := by
 unfold within
 rw [Bool.eq_iff_iff]
 simp only [Bool.and_eq_true, decide_eq_true_eq]
 omega
theorem YY (o a b : Int) (xs : LL) : Oy.c o a b xs = rB (Ke o a b xs.length) := by
 simp only [Oy.eq, Hv, Yu, q0, qb, qi, cB, Er]
 unfold Ke Sh Sv
 cases decide (o = 2) <;> cases decide (o = 4) <;> cases decide (o = 5) <;> cases decide (o = 6) <;> cases within o 2 5 <;> rfl
theorem aaS (o a b : Int) (xs : LL) : Qv.c o a b xs = rB (Ke o a b xs.length) := by
 have e : ∀ x y z : Bool, (z && (x && y)) = (x && (y && z)) := by decide
 simp only [Qv.eq, IU, Nb, aap, q0, qb, qi, cB, Er]
 unfold Ke Sh Sv
 cases decide (o = 2) <;> cases decide (o = 4) <;> cases decide (o = 5) <;> cases decide (o = 6) <;> cases within o 2 5 <;> simp only [cond_true, cond_false, acu] <;> exact congrArg rB (e _ _ _).symm
/-- All nodes are right. -/
def Gb : Nat → Int → Int → Int → LL → Bool
 | 0, _, _, _, _ => false
 | n + 1, o, a, b, xs => Ke o a b xs.length && xs.all fun x => Gb n (ui x 0) (ui x 1) (ui x 2) (ul x 3)
theorem VC : ∀ (n : Nat) (o a b : Int) (xs : LL), Db xs < n → n ≤ 4611686018427387904 → IF.c o a b xs = rB (Gb n o a b xs)
 | 0, _, _, _, _, h, _ => by omega
 | n + 1, o, a, b, xs, h, hn => by
  have hl := Dk xs
  rw [IF.eq, aaS]
  simp only [q0, qb, LN]
  unfold Gb
  cases Ke o a b xs.length
  ·rfl
  rw [cond_true, Bool.true_and]
  refine (QT (l0 := fun i => IF.l0 i o a b xs) (n := xs.length) (p := fun i => Gb n (ui (xs.getD i []) 0) (ui (xs.getD i []) 1) (ui (xs.getD i []) 2) (ul (xs.getD i []) 3)) (b := true) ?_ fun i hi => ?_).trans (by rw [Bool.and_true, UU xs [] fun x => Gb n (ui x 0) (ui x 1) (ui x 2) (ul x 3)])
  ·rw [IF.Da, Dj (Nat.le_refl _)]; rfl
  ·have := sub_lt hi 3
   have hs := VC n (ui (xs.getD i []) 0) (ui (xs.getD i []) 1) (ui (xs.getD i []) 2) (ul (xs.getD i []) 3) (by omega) (by omega)
   rw [IF.Da, Di hi, DE hi, DJ (by omega)]
   show ((IF.c (ui (xs.getD i []) 0) (ui (xs.getD i []) 1) (ui (xs.getD i []) 2) (ul (xs.getD i []) 3)).bind _) = _
   rw [hs]
   cases Gb n (ui (xs.getD i []) 0) (ui (xs.getD i []) 1) (ui (xs.getD i []) 2) (ul (xs.getD i []) 3) <;> rfl
theorem Uz : ∀ (n : Nat) (o a b : Int) (xs : LL), Db xs < n → n ≤ 4611686018427387904 → LX.c o a b xs = rB (Gb n o a b xs)
 | 0, _, _, _, _, h, _ => by omega
 | n + 1, o, a, b, xs, h, hn => by
  have hl := Dk xs
  have hf : Jv.c xs = rI (DC xs fun x => !Gb n (ui x 0) (ui x 1) (ui x 2) (ul x 3)) := by
   rw [Jv.eq]
   refine Ks (l0 := fun i => Jv.l0 xs _ i) (n := xs.length) (p := fun i => !Gb n (ui (xs.getD i []) 0) (ui (xs.getD i []) 1) (ui (xs.getD i []) 2) (ul (xs.getD i []) 3)) ?_ fun i hi => ?_
   ·rw [Jv.Da, Dj (Nat.le_refl _)]; rfl
   ·have := sub_lt hi 3
    have hs := Uz n (ui (xs.getD i []) 0) (ui (xs.getD i []) 1) (ui (xs.getD i []) 2) (ul (xs.getD i []) 3) (by omega) (by omega)
    rw [Jv.Da, Di hi, DE hi, DJ (by omega), RD.eq]
    show (((LX.c (ui (xs.getD i []) 0) (ui (xs.getD i []) 1) (ui (xs.getD i []) 2) (ul (xs.getD i []) 3)).bind _).bind _) = _
    rw [hs]; rfl
  rw [LX.eq, YY, Sd.eq, hf]
  simp only [q0, qb, qi, cB, Er]
  rw [show Gb (n + 1) o a b xs = (Ke o a b xs.length && xs.all fun x => Gb n (ui x 0) (ui x 1) (ui x 2) (ul x 3)) from rfl]
  congr 2
  show (!decide (pos (fun i => (fun x => !Gb n (ui x 0) (ui x 1) (ui x 2) (ul x 3)) (xs.getD i [])) xs.length 0 ≥ 0)) = _
  rw [Si fun x => !Gb n (ui x 0) (ui x 1) (ui x 2) (ul x 3), List.all_eq_not_any_not]
/-- How many nodes are below. -/
def Ga : Nat → LL → Nat
 | 0, _ => 0
 | n + 1, xs => (xs.map fun x => 1 + Ga n (ul x 3)).sum
theorem TF : ∀ (n : Nat) (xs : LL), Ga n xs ≤ Db xs
 | 0, xs => Nat.zero_le _
 | n + 1, [] => by simp [Ga]
 | n + 1, x :: xs => by
  have h1 := TF n (ul x 3)
  have h2 := TF (n + 1) xs
  have h3 := QW x 3
  simp only [Ga, List.map_cons, List.sum_cons, Db] at h2 ⊢
  omega
theorem Ux : ∀ (n : Nat) (o a b : Int) (xs : LL), Db xs < n → n ≤ 4611686018427387904 → Hy.c o a b xs = rI (((1 + Ga n xs : Nat) : Int))
 | 0, _, _, _, _, h, _ => by omega
 | n + 1, o, a, b, xs, h, hn => by
  have hl := Dk xs
  have key : ∀ i, i ≤ xs.length → ∀ k : Nat, k + Db (xs.drop i) ≤ 4611686018427387904 → Hy.l0 (k : Int) xs (ln xs) (i : Int) = rI (((k + ((xs.drop i).map fun x => 1 + Ga n (ul x 3)).sum : Nat) : Int)) := by
   refine down xs.length ?_ ?_
   ·intro k hk
    rw [Hy.Da, Dj (Nat.le_refl _), List.drop_length]; rfl
   ·intro i hi ih k hk
    have := sub_lt hi 3
    have hs := Ux n (ui (xs.getD i []) 0) (ui (xs.getD i []) 1) (ui (xs.getD i []) 2) (ul (xs.getD i []) 3) (by omega) (by omega)
    rw [Mt hi] at hk ⊢
    have h1 := TF n (ul (xs.getD i []) 3)
    have h2 := QW (xs.getD i []) 3
    simp only [Db] at hk
    rw [Hy.Da, Di hi, DE hi, DJ (by omega)]
    show ((Hy.c (ui (xs.getD i []) 0) (ui (xs.getD i []) 1) (ui (xs.getD i []) 2) (ul (xs.getD i []) 3)).bind _) = _
    rw [hs]
    show Hy.l0 (CX ((k : Int) + ((1 + Ga n (ul (xs.getD i []) 3) : Nat) : Int))) xs (ln xs) ((i + 1 : Nat) : Int) = _
    have e : CX ((k : Int) + ((1 + Ga n (ul (xs.getD i []) 3) : Nat) : Int)) = ((k + (1 + Ga n (ul (xs.getD i []) 3)) : Nat) : Int) := by rw [Ij (by omega) (by omega)]; omega
    rw [e, ih _ (by omega), List.map_cons, List.sum_cons, Nat.add_assoc]
  rw [Hy.eq]
  have := key 0 (Nat.zero_le _) 1 (by rw [List.drop_zero]; omega)
  rw [List.drop_zero] at this
  exact this
theorem Vv : ∀ (n : Nat) (o a b : Int) (xs : LL) (L : Int), Db xs < n → n ≤ 4611686018427387904 → 0 ≤ L → L ≤ 4611686018427387904 →
  ∃ m : Int, IE.c o a b xs L = rI m ∧ m ≤ L ∧ (((1 + Ga n xs : Nat) : Int) ≤ L → m = L - ((1 + Ga n xs : Nat) : Int)) ∧ (L < ((1 + Ga n xs : Nat) : Int) → m < 0)
 | 0, _, _, _, _, _, h, _, _, _ => by omega
 | n + 1, o, a, b, xs, L, h, hn, h0, hL => by
  have hl := Dk xs
  have key : ∀ i, i ≤ xs.length → ∀ l : Int, l ≤ 4611686018427387904 → ∃ m : Int, IE.l0 l (i : Int) o a b xs = rI m ∧ m ≤ l ∧ ((((xs.drop i).map fun x => 1 + Ga n (ul x 3)).sum : Int) ≤ l → m = l - (((xs.drop i).map fun x => 1 + Ga n (ul x 3)).sum : Int)) ∧ (l < (((xs.drop i).map fun x => 1 + Ga n (ul x 3)).sum : Int) → m < 0) := by
   refine down xs.length ?_ ?_
   ·intro l Uk
    refine ⟨l, by rw [IE.Da, Dj (Nat.le_refl _)]; rfl, Int.le_refl _, ?_, ?_⟩ <;> rw [List.drop_length] <;> simp
   ·intro i hi ih l Uk
    rw [Mt hi, List.map_cons, List.sum_cons, IE.Da, Di hi, cond_true]
    by_cases hl0 : l ≥ 0
    ·have := sub_lt hi 3
     obtain ⟨m1, hs, q1, q2, q3⟩ := Vv n (ui (xs.getD i []) 0) (ui (xs.getD i []) 1) (ui (xs.getD i []) 2) (ul (xs.getD i []) 3) l (by omega) (by omega) hl0 Uk
     obtain ⟨m, r1, r2, r3, r4⟩ := ih m1 (by omega)
     refine ⟨m, ?_, by omega, fun hh => ?_, fun hh => ?_⟩
     ·rw [decide_eq_true hl0, DE hi, DJ (by omega)]
      show ((IE.c (ui (xs.getD i []) 0) (ui (xs.getD i []) 1) (ui (xs.getD i []) 2) (ul (xs.getD i []) 3) l).bind _) = _
      rw [hs]; exact r1
     ·have h1 := q2 (by omega)
      rw [r3 (by omega)]; omega
     ·by_cases hc : ((1 + Ga n (ul (xs.getD i []) 3) : Nat) : Int) ≤ l
      ·have h1 := q2 hc
       exact r4 (by omega)
      ·have := q3 (by omega)
       exact r4 (by omega)
    ·refine ⟨l, by rw [decide_eq_false hl0]; rfl, Int.le_refl _, fun hh => by omega, fun _ => by omega⟩
  rw [IE.eq, Ij (by omega) (by omega)]
  obtain ⟨m, r1, r2, r3, r4⟩ := key 0 (Nat.zero_le _) (L - 1) (by omega)
  rw [List.drop_zero] at r3 r4
  refine ⟨m, r1, by omega, fun hh => ?_, fun hh => ?_⟩
  ·simp only [Ga] at hh ⊢
   rw [r3 (by omega)]; omega
  ·simp only [Ga] at hh
   exact r4 (by omega)
def Kv (o a b : Int) (xs : LL) : Bool := decide (((1 + Ga (Db xs + 1) xs : Nat) : Int) ≤ 15) && Gb (Db xs + 1) o a b xs
theorem Uo (o a b : Int) (xs : LL) (h : Db xs ≤ 1099511627776) : LU.c o a b xs = rB (Kv o a b xs) := by
 rw [LU.eq, Ux (Db xs + 1) o a b xs (Nat.lt_succ_self _) (by omega), Uz (Db xs + 1) o a b xs (Nat.lt_succ_self _) (by omega)]
 simp only [q0, qi, qb, cB, Er]; rfl
theorem Vp (o a b : Int) (xs : LL) (h : Db xs ≤ 1099511627776) : Mj.c o a b xs = rB (Kv o a b xs) := by
 obtain ⟨m, h1, h2, h3, h4⟩ := Vv (Db xs + 1) o a b xs 15 (Nat.lt_succ_self _) (by omega) (by omega) (by omega)
 rw [Mj.eq, h1, VC (Db xs + 1) o a b xs (Nat.lt_succ_self _) (by omega)]
 simp only [q0, qi, qb, cB, Er]
 unfold Kv
 congr 2
 show decide (m ≥ 0) = _
 rw [decide_eq_decide]
 omega
/-- Whether a leaf holds. -/
noncomputable def leaf (l s : LL) (p d g now : Int) (o a b : Int) : Bool := bif decide (o = 1) then true else bif decide (o = 2) then has (ET (Tq l s p now b)) a else bif decide (o = 3) then decide (DC s (Mw 2 p d now b) ≥ 0) else bif decide (o = 4) then decide (QU s 3 d now b ≥ a) else bif decide (o = 5) then decide (QU s 4 g now b ≥ a) else (decide (o = 6) && decide (now ≤ a))
noncomputable def Kr (l s : LL) (p d g now : Int) : Nat → Int → Int → Int → LL → Bool
 | 0, _, _, _, _ => false
 | n + 1, o, a, b, xs => bif decide (o = 7) then !Kr l s p d g now n (gi xs 0 0) (gi xs 0 1) (gi xs 0 2) (gl xs 0 3)
  else bif decide (o = 8) then (Kr l s p d g now n (gi xs 0 0) (gi xs 0 1) (gi xs 0 2) (gl xs 0 3) && Kr l s p d g now n (gi xs 1 0) (gi xs 1 1) (gi xs 1 2) (gl xs 1 3))
  else bif decide (o = 9) then (Kr l s p d g now n (gi xs 0 0) (gi xs 0 1) (gi xs 0 2) (gl xs 0 3) || Kr l s p d g now n (gi xs 1 0) (gi xs 1 1) (gi xs 1 2) (gl xs 1 3))
  else leaf l s p d g now o a b
theorem UP (xs : LL) (q : List U → Bool) : (!decide (DC xs q = -1)) = decide (DC xs q ≥ 0) := by
 rcases Md xs q with ⟨h, _⟩ | ⟨j, h, _⟩
 ·rw [h]; rfl
 ·rw [h, decide_eq_true (show (j : Int) ≥ 0 by omega), decide_eq_false (show ¬ (j : Int) = -1 by omega)]; rfl
theorem aaO (l s : LL) (hl : l.length ≤ 4611686018427387904) (hs : s.length ≤ 4611686018427387904) (o a b : Int) (xs : LL) (p d g ac ob now : Int) : Qq.c l s o a b xs p d g ac ob now = rB (leaf l s p d g now o a b) := by
 simp only [Qq.eq, Se.eq, aaZ l s hl hs, aaH s hs, aar s hs, q0, ql, qi, qb, aaJ _ (Nat.le_trans (RU _) (by decide)), cB]
 unfold leaf
 cases decide (o = 6) <;> rfl
theorem Vt (l s : LL) (hl : l.length ≤ 4611686018427387904) (hs : s.length ≤ 4611686018427387904) (p d g ac ob now : Int) : ∀ (n : Nat) (o a b : Int) (xs : LL), Gb n o a b xs = true → Fj.c l s o a b xs p d g ac ob now = rB (Kr l s p d g now n o a b xs)
 | 0, o, a, b, xs, h => by cases h
 | n + 1, o, a, b, xs, h => by
  have h : (Ke o a b xs.length && xs.all fun x => Gb n (ui x 0) (ui x 1) (ui x 2) (ul x 3)) = true := h
  rw [Bool.and_eq_true] at h
  obtain ⟨h1, h2⟩ := h
  have hn : (xs.length : Int) = arity o := by
   unfold Ke at h1
   rw [Bool.and_eq_true] at h1
   exact of_decide_eq_true h1.1
  have sub : ∀ i : Nat, i < xs.length → Fj.c l s (gi xs i 0) (gi xs i 1) (gi xs i 2) (gl xs i 3) p d g ac ob now = rB (Kr l s p d g now n (gi xs i 0) (gi xs i 1) (gi xs i 2) (gl xs i 3)) := fun i hi => by
   have := List.all_eq_true.1 h2 _ (De hi (z := []))
   exact Vt l s hl hs p d g ac ob now n _ _ _ _ this
  rw [Fj.eq]
  by_cases h7 : o = 7
  ·subst h7
   have dV : xs.length = 1 := by have : arity 7 = 1 := rfl; omega
   have s0 := sub 0 (by omega)
   rw [dV]
   show ((Fj.c l s (gi xs 0 0) (gi xs 0 1) (gi xs 0 2) (gl xs 0 3) p d g ac ob now).bind _) = _
   rw [show Fj.c l s (gi xs 0 0) (gi xs 0 1) (gi xs 0 2) (gl xs 0 3) p d g ac ob now = _ from s0]; rfl
  by_cases h8 : o = 8
  ·subst h8
   have dV : xs.length = 2 := by have : arity 8 = 2 := rfl; omega
   have s0 := sub 0 (by omega)
   have s1 := sub 1 (by omega)
   rw [dV]
   show ((Fj.c l s (gi xs 0 0) (gi xs 0 1) (gi xs 0 2) (gl xs 0 3) p d g ac ob now).bind fun r1 => bif r1.b 0 then ((Fj.c l s (gi xs 1 0) (gi xs 1 1) (gi xs 1 2) (gl xs 1 3) p d g ac ob now).bind _) else _) = _
   rw [show Fj.c l s (gi xs 0 0) (gi xs 0 1) (gi xs 0 2) (gl xs 0 3) p d g ac ob now = _ from s0, show Fj.c l s (gi xs 1 0) (gi xs 1 1) (gi xs 1 2) (gl xs 1 3) p d g ac ob now = _ from s1]
   simp only [q0, qb, cB, Er]; rfl
  by_cases h9 : o = 9
  ·subst h9
   have dV : xs.length = 2 := by have : arity 9 = 2 := rfl; omega
   have s0 := sub 0 (by omega)
   have s1 := sub 1 (by omega)
   rw [dV]
   show ((Fj.c l s (gi xs 0 0) (gi xs 0 1) (gi xs 0 2) (gl xs 0 3) p d g ac ob now).bind fun r1 => bif r1.b 0 then rB true else ((Fj.c l s (gi xs 1 0) (gi xs 1 1) (gi xs 1 2) (gl xs 1 3) p d g ac ob now).bind _)) = _
   rw [show Fj.c l s (gi xs 0 0) (gi xs 0 1) (gi xs 0 2) (gl xs 0 3) p d g ac ob now = _ from s0, show Fj.c l s (gi xs 1 0) (gi xs 1 1) (gi xs 1 2) (gl xs 1 3) p d g ac ob now = _ from s1]
   simp only [q0, qb, cB, TR]; rfl
  rw [decide_eq_false h7, decide_eq_false h8, decide_eq_false h9, aaO l s hl hs]
  show rB _ = rB (bif decide (o = 7) then _ else bif decide (o = 8) then _ else bif decide (o = 9) then _ else _)
  rw [decide_eq_false h7, decide_eq_false h8, decide_eq_false h9]; rfl
end Go.Proofs.YtbanfmadialnkaaGreat.Eng
/- half -/
