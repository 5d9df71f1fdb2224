/- A world's trails: an entry more. -/
import Derived.Test.YtaghmjcfaplkiaaGreatPCw
import Derived.Test.YtaghmjcfaplkiaaGreatPEl
import Derived.Test.YtaghmjcfaplkiaaGreatPC2
namespace Go.Proofs.YtaghmjcfaplkiaaGreat.Eng
open Go.RowKit
set_option linter.unusedVariables false
set_option linter.unusedSimpArgs false
set_option linter.unusedSectionVars false
set_option maxRecDepth 100000
variable [Sm]
theorem Ww (d : Int) (x : List U) : -2147483647 ≤ lN d x ∧ lN d x ≤ 2147483647 := by
 have h : ∀ n : Int, -2147483647 ≤ n.tmod 2147483647 ∧ n.tmod 2147483647 ≤ 2147483647 := fun n => by
  have h1 := Int.tmod_lt_of_pos n (b := 2147483647) (by omega)
  have h2 := Int.lt_tmod_of_pos n (b := 2147483647) (by omega)
  omega
 exact h _
theorem Tl : ∀ (xs : LL) (d : Int), -2147483647 ≤ d ∧ d ≤ 2147483647 → -2147483647 ≤ xs.foldl lN d ∧ xs.foldl lN d ≤ 2147483647
 | [], d, h => h
 | x :: xs, d, _ => Tl xs _ (Ww d x)
theorem Wn (xs : LL) : -2147483647 ≤ Mw xs ∧ Mw xs ≤ 2147483647 := Tl xs 11 (by omega)
abbrev Lr (n : Int) : Prop := -9223372036854775808 ≤ n ∧ n ≤ 9223372036854775807
/-- A trail, of a world's. -/
def Hj (a9 : LL) (i : Nat) : LL := ul (a9.getD i []) 0
def LZ (a0 : Int) (a9 : LL) (i : Nat) (k : Int) : Bool := LU (Hj a9 i) k a0
def Py (a0 : Int) (a7 a9 : LL) (i : Nat) (k s p o c : Int) : List U := MM (Hj a9 i) k a0 (ui (a7.getD i []) 0) s p o c (ui (a7.getD i []) 1)
def Ln (a0 : Int) (a7 a9 : LL) (i : Nat) (k s p o c : Int) : LL := bif LZ a0 a9 i k then Hj a9 i ++ [Py a0 a7 a9 i k s p o c] else Hj a9 i
def Qb (a9 : LL) (i : Nat) (t : LL) : LL := a9.set i [U.lst t]
theorem SE {a9 : LL} (h : WR Fw.ct 90 a9) {i : Nat} (hi : i < a9.length) (t : LL) : bY a9 i 0 [U.lst t] = Qb a9 i t := by
 obtain ⟨c, hr, _⟩ := Nn (h.2 _ (FB hi (z := [])))
 rw [Gm, hr]; rfl
theorem SD {a9 : LL} (h : WR Fw.ct 90 a9) (b : Fx a9 ≤ 1048576) {i : Nat} (hi : i < a9.length) : a9.getD i [] = [U.lst (Hj a9 i)] ∧ WR Fw.ct 96 (Hj a9 i) ∧ Fx (Hj a9 i) + 1 ≤ Fx a9 := by
 obtain ⟨c, hr, hc⟩ := Nn (h.2 _ (FB hi (z := [])))
 have hm := FX (FB hi (z := []))
 unfold Hj
 rw [hr] at hm ⊢
 simp only [FP, FV] at hm
 exact ⟨rfl, hc, by show Fx c + 1 ≤ _; omega⟩
theorem Yj (a0 : Int) (a1 a2 a3 a4 : List (List U)) (a5 : Int) (a6 a7 a8 a9 : List (List U)) (FD : Int) (FE a12 FH FL FM FN : List (List U)) (FR : Int) (FO FQ : List (List U)) {i : Nat} (hi : i < a7.length) (h9 : WR Fw.ct 90 a9) (b9 : Fx a9 ≤ 1048576) (Jk : i < a9.length) (k t pt s p o c ep m : Int) :
  Ns.c a0 a1 a2 a3 a4 a5 a6 a7 a8 a9 FD FE a12 FH FL FM FN FR FO FQ (i : Int) k t pt s p o c ep m = some ⟨[[.lst (Ln a0 a7 a9 i k s p o c)], [.bool (LZ a0 a9 i k)]], []⟩ := by
 have hl := FF (Hj a9 i)
 have hx := (SD h9 b9 Jk).2.2
 rw [Ns.eq, GH hi, GH Jk]
 show ((Np.c (Hj a9 i) k a0 (ui (a7.getD i []) 0) s p o c (ui (a7.getD i []) 1) m).bind _) = _
 rw [XW _ (by omega)]
 unfold Ln LZ Py
 cases LU (Hj a9 i) k a0 <;> rfl
theorem WO (a0 : Int) (a1 a2 a3 a4 : List (List U)) (a5 : Int) (a6 a7 a8 a9 : List (List U)) (FD : Int) (FE a12 FH FL FM FN : List (List U)) (FR : Int) (FO FQ : List (List U)) {i : Nat} (hi : i < a7.length) (h9 : WR Fw.ct 90 a9) (b9 : Fx a9 ≤ 1048576) (Jk : i < a9.length) (k t pt s p o c ep m : Int) :
  LM.c (i : Int) k t pt s p o c ep m [[U.int a0, U.lst a1, U.lst a2, U.lst a3, U.lst a4, U.int a5, U.lst a6, U.lst a7, U.lst a8, U.lst a9, U.int FD, U.lst FE, U.lst a12, U.lst FH, U.lst FL, U.lst FM, U.lst FN, U.int FR, U.lst FO, U.lst FQ]] = some ⟨[[.bool (LZ a0 a9 i k)]], [[[U.int a0, U.lst a1, U.lst a2, U.lst a3, U.lst a4, U.int a5, U.lst a6, U.lst a7, U.lst a8, U.lst (Qb a9 i (Ln a0 a7 a9 i k s p o c)), U.int FD, U.lst FE, U.lst a12, U.lst FH, U.lst FL, U.lst FM, U.lst FN, U.int FR, U.lst FO, U.lst FQ]]]⟩ := by
 have hl := FF (Hj a9 i)
 have hx := (SD h9 b9 Jk).2.2
 rw [LM.eq]
 show (bif decide ((i : Int) ≥ ln a9) then _ else EK (dE (i : Int) a7.length) (EK (dE (i : Int) a7.length) (EK (dE (i : Int) a9.length) ((MR.c (Hj a9 i) k a0 (ui (a7.getD i []) 0) s p o c (ui (a7.getD i []) 1) m).bind fun r0 => EK (dE (i : Int) a9.length) (some ⟨[[.bool (r0.bj 1 0)]], [cD [[U.int a0, U.lst a1, U.lst a2, U.lst a3, U.lst a4, U.int a5, U.lst a6, U.lst a7, U.lst a8, U.lst a9, U.int FD, U.lst FE, U.lst a12, U.lst FH, U.lst FL, U.lst FM, U.lst FN, U.int FR, U.lst FO, U.lst FQ]] [(0, 9)] (bY a9 i 0 [U.lst (r0.l 0)])]⟩))))) = _
 rw [decide_eq_false (show ¬ (i : Int) ≥ ln a9 by show ¬ (i : Int) ≥ (a9.length : Int); omega), GH hi, GH Jk, WA _ (by omega)]
 unfold Ln LZ Py
 cases LU (Hj a9 i) k a0
 ·show (some ⟨[[.bool false]], [cD [[U.int a0, U.lst a1, U.lst a2, U.lst a3, U.lst a4, U.int a5, U.lst a6, U.lst a7, U.lst a8, U.lst a9, U.int FD, U.lst FE, U.lst a12, U.lst FH, U.lst FL, U.lst FM, U.lst FN, U.int FR, U.lst FO, U.lst FQ]] [(0, 9)] (bY a9 i 0 [U.lst (Hj a9 i)])]⟩ : O) = _
  rw [SE h9 Jk]; rfl
 ·show (some ⟨[[.bool true]], [cD [[U.int a0, U.lst a1, U.lst a2, U.lst a3, U.lst a4, U.int a5, U.lst a6, U.lst a7, U.lst a8, U.lst a9, U.int FD, U.lst FE, U.lst a12, U.lst FH, U.lst FL, U.lst FM, U.lst FN, U.int FR, U.lst FO, U.lst FQ]] [(0, 9)] (bY a9 i 0 [U.lst (Hj a9 i ++ [MM (Hj a9 i) k a0 (ui (a7.getD i []) 0) s p o c (ui (a7.getD i []) 1)])])]⟩ : O) = _
  rw [SE h9 Jk]; rfl
theorem WQ (a0 : Int) (a1 a2 a3 a4 : List (List U)) (a5 : Int) (a6 a7 a8 a9 : List (List U)) (FD : Int) (FE a12 FH FL FM FN : List (List U)) (FR : Int) (FO FQ : List (List U)) {i : Int} (hi : ¬ i < ln a9) (k t pt s p o c ep m : Int) :
  LM.c i k t pt s p o c ep m [[U.int a0, U.lst a1, U.lst a2, U.lst a3, U.lst a4, U.int a5, U.lst a6, U.lst a7, U.lst a8, U.lst a9, U.int FD, U.lst FE, U.lst a12, U.lst FH, U.lst FL, U.lst FM, U.lst FN, U.int FR, U.lst FO, U.lst FQ]] = some ⟨[[.bool false]], [[[U.int a0, U.lst a1, U.lst a2, U.lst a3, U.lst a4, U.int a5, U.lst a6, U.lst a7, U.lst a8, U.lst a9, U.int FD, U.lst FE, U.lst a12, U.lst FH, U.lst FL, U.lst FM, U.lst FN, U.int FR, U.lst FO, U.lst FQ]]]⟩ := by
 rw [LM.eq]
 show (bif decide (i ≥ ln a9) then _ else _) = _
 rw [decide_eq_true (show i ≥ ln a9 by omega)]; rfl
theorem XD {a0 : Int} {a7 a9 : LL} (h7 : WR Fw.ct 167 a7) {i : Nat} (hi : i < a7.length) (h9 : WR Fw.ct 90 a9) (b9 : Fx a9 ≤ 1048576) (Jk : i < a9.length) {k s p o c : Int} (hk : Lr k) (hs : Lr s) (hp : Lr p) (ho : Lr o) (hc : Lr c) :
  WR Fw.ct 90 (Qb a9 i (Ln a0 a7 a9 i k s p o c)) ∧ Fx (Qb a9 i (Ln a0 a7 a9 i k s p o c)) ≤ 1048577 := by
 obtain ⟨e1, e2, e3⟩ := SD h9 b9 Jk
 have hl := FF (Hj a9 i)
 have key : WR Fw.ct 96 (Ln a0 a7 a9 i k s p o c) ∧ Fx (Ln a0 a7 a9 i k s p o c) ≤ Fx (Hj a9 i) + 1 := by
  unfold Ln
  cases hB : LZ a0 a9 i k
  ·exact ⟨e2, Nat.le_succ _⟩
  ·have Wm : Lr a0 := by
    unfold LZ LU at hB
    simp only [Bool.and_eq_true] at hB
    have := LF hB.2.2.1
    omega
   obtain ⟨q0, q1, q2, q3, q4, q5, q6, q7, q8, q9, hr, _⟩ := PC (h7.2 _ (FB hi (z := [])))
   have Lm := h7.2 _ (FB hi (z := []))
   rw [hr] at Lm
   have g0 : Lr (ui (a7.getD i []) 0) := by rw [hr]; exact wi (Lm.2 0 _ _ rfl rfl)
   have g1 : Lr (ui (a7.getD i []) 1) := by rw [hr]; exact wi (Lm.2 1 _ _ rfl rfl)
   have hm := Wn
   refine ⟨WR.app e2 (WR.one ?_) (by show _ + 1 ≤ _; omega), ?_⟩
   ·show zx Fw.ct [.int .i64, .int .i64, .int .i64, .int .i64, .int .i64, .int .i64, .int .i64, .int .i64, .int .i64] (MM (Hj a9 i) k a0 (ui (a7.getD i []) 0) s p o c (ui (a7.getD i []) 1))
    refine Jh (Kt hk) (Jh (Kt Wm) (Jh (Kt g0) (Jh (Kt hs) (Jh (Kt hp) (Jh (Kt ho) (Jh (Kt hc) (Jh (Kt g1) (Jh (Kt ?_) Rv))))))))
    have := hm ([[U.int (Lv (Hj a9 i))]] ++ [[U.int k], [U.int a0], [U.int (ui (a7.getD i []) 0)], [U.int s], [U.int p], [U.int o], [U.int c], [U.int (ui (a7.getD i []) 1)]])
    omega
   ·show Fx (Hj a9 i ++ [Py a0 a7 a9 i k s p o c]) ≤ _
    rw [QE]
    simp [Py, MM, Fx, FP, FV]
 have xq := RL (r := [U.lst (Ln a0 a7 a9 i k s p o c)]) Jk
 rw [e1] at xq
 simp only [FP, FV] at xq
 refine ⟨⟨by show (a9.set i _).length ≤ _; rw [List.length_set]; exact h9.1, fun x hx => ?_⟩, by show Fx (a9.set i _) ≤ _; omega⟩
 rcases List.mem_or_eq_of_mem_set hx with hx | rfl
 ·exact h9.2 x hx
 ·show zx Fw.ct [.aj 96] _
  exact Jh key.1.SC Rv
end Go.Proofs.YtaghmjcfaplkiaaGreat.Eng
/- half -/
