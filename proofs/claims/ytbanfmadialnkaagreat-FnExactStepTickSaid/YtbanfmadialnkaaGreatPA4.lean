/- Conditions: whether they are valid, whether they hold. -/
import Derived.Test.YtbanfmadialnkaaGreatPA3
namespace Go.Proofs.YtbanfmadialnkaaGreat.Eng
open Go.RowKit
set_option linter.unusedVariables false
set_option linter.unusedSimpArgs false
set_option linter.unusedSectionVars false
set_option maxRecDepth 100000
variable [Sm]
theorem QH : ∀ (x : List U) (k : Nat), Db (ul x k) ≤ Dn x
 | [], k => by simp [ul, Db, U.bX]
 | u :: us, 0 => by
  simp only [ul, List.getD_cons_zero, Dn]
  cases u <;> simp [U.bX, Db, Dt]
 | u :: us, k + 1 => by
  have := QH us k
  simp only [ul, List.getD_cons_succ, Dn] at this ⊢
  omega
theorem sub_lt {xs : LL} {i : Nat} (hi : i < xs.length) (k : Nat) : Db (ul (xs.getD i []) k) < Db xs :=
 Nat.lt_of_le_of_lt (QH _ k) (DH (Dg hi (z := [])))
def arity (o : Int) : Int := bif decide (o = 7) then 1 else bif decide (o = 8) then 2 else bif decide (o = 9) then 2 else bif within o 1 6 then 0 else -1
theorem Ya (o : Int) : FZ.c o = rI (arity o) := by simp only [FZ.eq, Hr, q0, qb, cI]; rfl
theorem aaf (o : Int) : Gq.c o = rI (arity o) := by
 rw [Gq.eq]
 unfold arity
 by_cases h1 : o = 1
 ·subst h1; rfl
 by_cases h2 : o = 2
 ·subst h2; rfl
 by_cases h3 : o = 3
 ·subst h3; rfl
 by_cases h4 : o = 4
 ·subst h4; rfl
 by_cases h5 : o = 5
 ·subst h5; rfl
 by_cases h6 : o = 6
 ·subst h6; rfl
 have h : within o 1 6 = false := by
  rw [Bool.eq_false_iff]; intro hh
  have := EB hh
  omega
 simp only [decide_eq_false h1, decide_eq_false h2, decide_eq_false h3, decide_eq_false h4, decide_eq_false h5, decide_eq_false h6, h, cond_false]
 cases decide (o = 7) <;> cases decide (o = 8) <;> cases decide (o = 9) <;> rfl
def RL (o : Int) : Int := bif decide (o = 2) then 5 else bif decide (o = 4) then 3 else bif decide (o = 5) then 3 else bif decide (o = 6) then 10000 else 0
def RZ (o : Int) : Int := bif within o 2 5 then 10000 else 0
def JX (o a b n : Int) : Bool := decide (n = arity o) && (within a 0 (RL o) && within b 0 (RZ o))
theorem aci (a : Int) : within a 0 0 = decide (a = 0) := by
 unfold within
 rw [Bool.eq_iff_iff]
 simp only [Bool.and_eq_true, decide_eq_true_eq]
 omega
theorem YE (o a b : Int) (xs : LL) : Oe.c o a b xs = rB (JX o a b xs.length) := by
 simp only [Oe.eq, Hr, Ya, q0, qb, qi, cB, En]
 unfold JX RL RZ
 cases decide (o = 2) <;> cases decide (o = 4) <;> cases decide (o = 5) <;> cases decide (o = 6) <;> cases within o 2 5 <;> rfl
theorem aaI (o a b : Int) (xs : LL) : Qg.c o a b xs = rB (JX o a b xs.length) := by
 have e : ∀ x y z : Bool, (z && (x && y)) = (x && (y && z)) := by decide
 simp only [Qg.eq, IP, MJ, aaf, q0, qb, qi, cB, En]
 unfold JX RL RZ
 cases decide (o = 2) <;> cases decide (o = 4) <;> cases decide (o = 5) <;> cases decide (o = 6) <;> cases within o 2 5 <;> simp only [cond_true, cond_false, aci] <;> exact congrArg rB (e _ _ _).symm
/-- All nodes are right. -/
def FW : Nat → Int → Int → Int → LL → Bool
 | 0, _, _, _, _ => false
 | n + 1, o, a, b, xs => JX o a b xs.length && xs.all fun x => FW n (ui x 0) (ui x 1) (ui x 2) (ul x 3)
theorem Vu : ∀ (n : Nat) (o a b : Int) (xs : LL), Db xs < n → n ≤ 4611686018427387904 → Iw.c o a b xs = rB (FW n o a b xs)
 | 0, _, _, _, _, h, _ => by omega
 | n + 1, o, a, b, xs, h, hn => by
  have hl := Dk xs
  rw [Iw.eq, aaI]
  simp only [q0, qb, Lu]
  unfold FW
  cases JX o a b xs.length
  ·rfl
  rw [cond_true, Bool.true_and]
  refine (TE (l0 := fun i => Iw.l0 i o a b xs) (n := xs.length) (p := fun i => FW n (ui (xs.getD i []) 0) (ui (xs.getD i []) 1) (ui (xs.getD i []) 2) (ul (xs.getD i []) 3)) (b := true) ?_ fun i hi => ?_).trans (by rw [Bool.and_true, UL xs [] fun x => FW n (ui x 0) (ui x 1) (ui x 2) (ul x 3)])
  ·rw [Iw.Da, Dj (Nat.le_refl _)]; rfl
  ·have := sub_lt hi 3
   have hs := Vu n (ui (xs.getD i []) 0) (ui (xs.getD i []) 1) (ui (xs.getD i []) 2) (ul (xs.getD i []) 3) (by omega) (by omega)
   rw [Iw.Da, Di hi, Dw hi, DG (by omega)]
   show ((Iw.c (ui (xs.getD i []) 0) (ui (xs.getD i []) 1) (ui (xs.getD i []) 2) (ul (xs.getD i []) 3)).bind _) = _
   rw [hs]
   cases FW n (ui (xs.getD i []) 0) (ui (xs.getD i []) 1) (ui (xs.getD i []) 2) (ul (xs.getD i []) 3) <;> rfl
theorem Up : ∀ (n : Nat) (o a b : Int) (xs : LL), Db xs < n → n ≤ 4611686018427387904 → LF.c o a b xs = rB (FW n o a b xs)
 | 0, _, _, _, _, h, _ => by omega
 | n + 1, o, a, b, xs, h, hn => by
  have hl := Dk xs
  have hf : Jq.c xs = rI (Ds xs fun x => !FW n (ui x 0) (ui x 1) (ui x 2) (ul x 3)) := by
   rw [Jq.eq]
   refine JG (l0 := fun i => Jq.l0 xs _ i) (n := xs.length) (p := fun i => !FW n (ui (xs.getD i []) 0) (ui (xs.getD i []) 1) (ui (xs.getD i []) 2) (ul (xs.getD i []) 3)) ?_ fun i hi => ?_
   ·rw [Jq.Da, Dj (Nat.le_refl _)]; rfl
   ·have := sub_lt hi 3
    have hs := Up n (ui (xs.getD i []) 0) (ui (xs.getD i []) 1) (ui (xs.getD i []) 2) (ul (xs.getD i []) 3) (by omega) (by omega)
    rw [Jq.Da, Di hi, Dw hi, DG (by omega), Rj.eq]
    show (((LF.c (ui (xs.getD i []) 0) (ui (xs.getD i []) 1) (ui (xs.getD i []) 2) (ul (xs.getD i []) 3)).bind _).bind _) = _
    rw [hs]; rfl
  rw [LF.eq, YE, RF.eq, hf]
  simp only [q0, qb, qi, cB, En]
  rw [show FW (n + 1) o a b xs = (JX o a b xs.length && xs.all fun x => FW n (ui x 0) (ui x 1) (ui x 2) (ul x 3)) from rfl]
  congr 2
  show (!decide (pos (fun i => (fun x => !FW n (ui x 0) (ui x 1) (ui x 2) (ul x 3)) (xs.getD i [])) xs.length 0 ≥ 0)) = _
  rw [RN fun x => !FW n (ui x 0) (ui x 1) (ui x 2) (ul x 3), List.all_eq_not_any_not]
/-- How many nodes are below. -/
def FV : Nat → LL → Nat
 | 0, _ => 0
 | n + 1, xs => (xs.map fun x => 1 + FV n (ul x 3)).sum
theorem Tw : ∀ (n : Nat) (xs : LL), FV n xs ≤ Db xs
 | 0, xs => Nat.zero_le _
 | n + 1, [] => by simp [FV]
 | n + 1, x :: xs => by
  have h1 := Tw n (ul x 3)
  have h2 := Tw (n + 1) xs
  have h3 := QH x 3
  simp only [FV, List.map_cons, List.sum_cons, Db] at h2 ⊢
  omega
theorem Un : ∀ (n : Nat) (o a b : Int) (xs : LL), Db xs < n → n ≤ 4611686018427387904 → Hu.c o a b xs = rI (((1 + FV n xs : Nat) : Int))
 | 0, _, _, _, _, h, _ => by omega
 | n + 1, o, a, b, xs, h, hn => by
  have hl := Dk xs
  have key : ∀ i, i ≤ xs.length → ∀ k : Nat, k + Db (xs.drop i) ≤ 4611686018427387904 → Hu.l0 (k : Int) xs (ln xs) (i : Int) = rI (((k + ((xs.drop i).map fun x => 1 + FV n (ul x 3)).sum : Nat) : Int)) := by
   refine down xs.length ?_ ?_
   ·intro k hk
    rw [Hu.Da, Dj (Nat.le_refl _), List.drop_length]; rfl
   ·intro i hi ih k hk
    have := sub_lt hi 3
    have hs := Un n (ui (xs.getD i []) 0) (ui (xs.getD i []) 1) (ui (xs.getD i []) 2) (ul (xs.getD i []) 3) (by omega) (by omega)
    rw [LZ hi] at hk ⊢
    have h1 := Tw n (ul (xs.getD i []) 3)
    have h2 := QH (xs.getD i []) 3
    simp only [Db] at hk
    rw [Hu.Da, Di hi, Dw hi, DG (by omega)]
    show ((Hu.c (ui (xs.getD i []) 0) (ui (xs.getD i []) 1) (ui (xs.getD i []) 2) (ul (xs.getD i []) 3)).bind _) = _
    rw [hs]
    show Hu.l0 (CX ((k : Int) + ((1 + FV n (ul (xs.getD i []) 3) : Nat) : Int))) xs (ln xs) ((i + 1 : Nat) : Int) = _
    have e : CX ((k : Int) + ((1 + FV n (ul (xs.getD i []) 3) : Nat) : Int)) = ((k + (1 + FV n (ul (xs.getD i []) 3)) : Nat) : Int) := by rw [Ix (by omega) (by omega)]; omega
    rw [e, ih _ (by omega), List.map_cons, List.sum_cons, Nat.add_assoc]
  rw [Hu.eq]
  have := key 0 (Nat.zero_le _) 1 (by rw [List.drop_zero]; omega)
  rw [List.drop_zero] at this
  exact this
theorem Vn : ∀ (n : Nat) (o a b : Int) (xs : LL) (L : Int), Db xs < n → n ≤ 4611686018427387904 → 0 ≤ L → L ≤ 4611686018427387904 →
  ∃ m : Int, Iv.c o a b xs L = rI m ∧ m ≤ L ∧ (((1 + FV n xs : Nat) : Int) ≤ L → m = L - ((1 + FV n xs : Nat) : Int)) ∧ (L < ((1 + FV n xs : Nat) : Int) → m < 0)
 | 0, _, _, _, _, _, h, _, _, _ => by omega
 | n + 1, o, a, b, xs, L, h, hn, h0, hL => by
  have hl := Dk xs
  have key : ∀ i, i ≤ xs.length → ∀ l : Int, l ≤ 4611686018427387904 → ∃ m : Int, Iv.l0 l (i : Int) o a b xs = rI m ∧ m ≤ l ∧ ((((xs.drop i).map fun x => 1 + FV n (ul x 3)).sum : Int) ≤ l → m = l - (((xs.drop i).map fun x => 1 + FV n (ul x 3)).sum : Int)) ∧ (l < (((xs.drop i).map fun x => 1 + FV n (ul x 3)).sum : Int) → m < 0) := by
   refine down xs.length ?_ ?_
   ·intro l TZ
    refine ⟨l, by rw [Iv.Da, Dj (Nat.le_refl _)]; rfl, Int.le_refl _, ?_, ?_⟩ <;> rw [List.drop_length] <;> simp
   ·intro i hi ih l TZ
    rw [LZ hi, List.map_cons, List.sum_cons, Iv.Da, Di hi, cond_true]
    by_cases hl0 : l ≥ 0
    ·have := sub_lt hi 3
     obtain ⟨m1, hs, q1, q2, q3⟩ := Vn n (ui (xs.getD i []) 0) (ui (xs.getD i []) 1) (ui (xs.getD i []) 2) (ul (xs.getD i []) 3) l (by omega) (by omega) hl0 TZ
     obtain ⟨m, r1, r2, r3, r4⟩ := ih m1 (by omega)
     refine ⟨m, ?_, by omega, fun hh => ?_, fun hh => ?_⟩
     ·rw [decide_eq_true hl0, Dw hi, DG (by omega)]
      show ((Iv.c (ui (xs.getD i []) 0) (ui (xs.getD i []) 1) (ui (xs.getD i []) 2) (ul (xs.getD i []) 3) l).bind _) = _
      rw [hs]; exact r1
     ·have h1 := q2 (by omega)
      rw [r3 (by omega)]; omega
     ·by_cases hc : ((1 + FV n (ul (xs.getD i []) 3) : Nat) : Int) ≤ l
      ·have h1 := q2 hc
       exact r4 (by omega)
      ·have := q3 (by omega)
       exact r4 (by omega)
    ·refine ⟨l, by rw [decide_eq_false hl0]; rfl, Int.le_refl _, fun hh => by omega, fun _ => by omega⟩
  rw [Iv.eq, Ix (by omega) (by omega)]
  obtain ⟨m, r1, r2, r3, r4⟩ := key 0 (Nat.zero_le _) (L - 1) (by omega)
  rw [List.drop_zero] at r3 r4
  refine ⟨m, r1, by omega, fun hh => ?_, fun hh => ?_⟩
  ·simp only [FV] at hh ⊢
   rw [r3 (by omega)]; omega
  ·simp only [FV] at hh
   exact r4 (by omega)
def Kt (o a b : Int) (xs : LL) : Bool := decide (((1 + FV (Db xs + 1) xs : Nat) : Int) ≤ 15) && FW (Db xs + 1) o a b xs
theorem Ud (o a b : Int) (xs : LL) (h : Db xs ≤ 1099511627776) : LA.c o a b xs = rB (Kt o a b xs) := by
 rw [LA.eq, Un (Db xs + 1) o a b xs (Nat.lt_succ_self _) (by omega), Up (Db xs + 1) o a b xs (Nat.lt_succ_self _) (by omega)]
 simp only [q0, qi, qb, cB, En]; rfl
theorem Vg (o a b : Int) (xs : LL) (h : Db xs ≤ 1099511627776) : LP.c o a b xs = rB (Kt o a b xs) := by
 obtain ⟨m, h1, h2, h3, h4⟩ := Vn (Db xs + 1) o a b xs 15 (Nat.lt_succ_self _) (by omega) (by omega) (by omega)
 rw [LP.eq, h1, Vu (Db xs + 1) o a b xs (Nat.lt_succ_self _) (by omega)]
 simp only [q0, qi, qb, cB, En]
 unfold Kt
 congr 2
 show decide (m ≥ 0) = _
 rw [decide_eq_decide]
 omega
/-- Whether a leaf holds. -/
noncomputable def leaf (l s : LL) (p d g now : Int) (o a b : Int) : Bool := bif decide (o = 1) then true else bif decide (o = 2) then has (ES (Te l s p now b)) a else bif decide (o = 3) then decide (Ds s (Mb 2 p d now b) ≥ 0) else bif decide (o = 4) then decide (QF s 3 d now b ≥ a) else bif decide (o = 5) then decide (QF s 4 g now b ≥ a) else (decide (o = 6) && decide (now ≤ a))
noncomputable def Kh (l s : LL) (p d g now : Int) : Nat → Int → Int → Int → LL → Bool
 | 0, _, _, _, _ => false
 | n + 1, o, a, b, xs => bif decide (o = 7) then !Kh l s p d g now n (gi xs 0 0) (gi xs 0 1) (gi xs 0 2) (gl xs 0 3)
  else bif decide (o = 8) then (Kh l s p d g now n (gi xs 0 0) (gi xs 0 1) (gi xs 0 2) (gl xs 0 3) && Kh l s p d g now n (gi xs 1 0) (gi xs 1 1) (gi xs 1 2) (gl xs 1 3))
  else bif decide (o = 9) then (Kh l s p d g now n (gi xs 0 0) (gi xs 0 1) (gi xs 0 2) (gl xs 0 3) || Kh l s p d g now n (gi xs 1 0) (gi xs 1 1) (gi xs 1 2) (gl xs 1 3))
  else leaf l s p d g now o a b
theorem UF (xs : LL) (q : List U → Bool) : (!decide (Ds xs q = -1)) = decide (Ds xs q ≥ 0) := by
 rcases KU xs q with ⟨h, _⟩ | ⟨j, h, _⟩
 ·rw [h]; rfl
 ·rw [h, decide_eq_true (show (j : Int) ≥ 0 by omega), decide_eq_false (show ¬ (j : Int) = -1 by omega)]; rfl
theorem aaE (l s : LL) (hl : l.length ≤ 4611686018427387904) (hs : s.length ≤ 4611686018427387904) (o a b : Int) (xs : LL) (p d g ac ob now : Int) : Qb.c l s o a b xs p d g ac ob now = rB (leaf l s p d g now o a b) := by
 simp only [Qb.eq, RG.eq, aaR l s hl hs, aaw s hs, aah s hs, q0, ql, qi, qb, aaz _ (Nat.le_trans (Ry _) (by decide)), cB]
 unfold leaf
 cases decide (o = 6) <;> rfl
theorem Vl (l s : LL) (hl : l.length ≤ 4611686018427387904) (hs : s.length ≤ 4611686018427387904) (p d g ac ob now : Int) : ∀ (n : Nat) (o a b : Int) (xs : LL), FW n o a b xs = true → Fg.c l s o a b xs p d g ac ob now = rB (Kh l s p d g now n o a b xs)
 | 0, o, a, b, xs, h => by cases h
 | n + 1, o, a, b, xs, h => by
  have h : (JX o a b xs.length && xs.all fun x => FW n (ui x 0) (ui x 1) (ui x 2) (ul x 3)) = true := h
  rw [Bool.and_eq_true] at h
  obtain ⟨h1, h2⟩ := h
  have hn : (xs.length : Int) = arity o := by
   unfold JX at h1
   rw [Bool.and_eq_true] at h1
   exact of_decide_eq_true h1.1
  have sub : ∀ i : Nat, i < xs.length → Fg.c l s (gi xs i 0) (gi xs i 1) (gi xs i 2) (gl xs i 3) p d g ac ob now = rB (Kh l s p d g now n (gi xs i 0) (gi xs i 1) (gi xs i 2) (gl xs i 3)) := fun i hi => by
   have := List.all_eq_true.1 h2 _ (Dg hi (z := []))
   exact Vl l s hl hs p d g ac ob now n _ _ _ _ this
  rw [Fg.eq]
  by_cases h7 : o = 7
  ·subst h7
   have dV : xs.length = 1 := by have : arity 7 = 1 := rfl; omega
   have s0 := sub 0 (by omega)
   rw [dV]
   show ((Fg.c l s (gi xs 0 0) (gi xs 0 1) (gi xs 0 2) (gl xs 0 3) p d g ac ob now).bind _) = _
   rw [show Fg.c l s (gi xs 0 0) (gi xs 0 1) (gi xs 0 2) (gl xs 0 3) p d g ac ob now = _ from s0]; rfl
  by_cases h8 : o = 8
  ·subst h8
   have dV : xs.length = 2 := by have : arity 8 = 2 := rfl; omega
   have s0 := sub 0 (by omega)
   have s1 := sub 1 (by omega)
   rw [dV]
   show ((Fg.c l s (gi xs 0 0) (gi xs 0 1) (gi xs 0 2) (gl xs 0 3) p d g ac ob now).bind fun r1 => bif r1.b 0 then ((Fg.c l s (gi xs 1 0) (gi xs 1 1) (gi xs 1 2) (gl xs 1 3) p d g ac ob now).bind _) else _) = _
   rw [show Fg.c l s (gi xs 0 0) (gi xs 0 1) (gi xs 0 2) (gl xs 0 3) p d g ac ob now = _ from s0, show Fg.c l s (gi xs 1 0) (gi xs 1 1) (gi xs 1 2) (gl xs 1 3) p d g ac ob now = _ from s1]
   simp only [q0, qb, cB, En]; rfl
  by_cases h9 : o = 9
  ·subst h9
   have dV : xs.length = 2 := by have : arity 9 = 2 := rfl; omega
   have s0 := sub 0 (by omega)
   have s1 := sub 1 (by omega)
   rw [dV]
   show ((Fg.c l s (gi xs 0 0) (gi xs 0 1) (gi xs 0 2) (gl xs 0 3) p d g ac ob now).bind fun r1 => bif r1.b 0 then rB true else ((Fg.c l s (gi xs 1 0) (gi xs 1 1) (gi xs 1 2) (gl xs 1 3) p d g ac ob now).bind _)) = _
   rw [show Fg.c l s (gi xs 0 0) (gi xs 0 1) (gi xs 0 2) (gl xs 0 3) p d g ac ob now = _ from s0, show Fg.c l s (gi xs 1 0) (gi xs 1 1) (gi xs 1 2) (gl xs 1 3) p d g ac ob now = _ from s1]
   simp only [q0, qb, cB, TI]; rfl
  rw [decide_eq_false h7, decide_eq_false h8, decide_eq_false h9, aaE l s hl hs]
  show rB _ = rB (bif decide (o = 7) then _ else bif decide (o = 8) then _ else bif decide (o = 9) then _ else _)
  rw [decide_eq_false h7, decide_eq_false h8, decide_eq_false h9]; rfl
end Go.Proofs.YtbanfmadialnkaaGreat.Eng
/- half -/
