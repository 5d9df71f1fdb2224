/- Emergencies: what declaring, using, settling do and keep. -/
import Derived.Test.YtaghmjcfaplkiaaGreatPC1
import Derived.Test.YtaghmjcfaplkiaaGreatPO
namespace Go.Proofs.YtaghmjcfaplkiaaGreat.Eng
open Go.RowKit
set_option linter.unusedVariables false
set_option linter.unusedSimpArgs false
set_option linter.unusedSectionVars false
set_option maxRecDepth 100000
variable [Sm]
/-- An emergency is used once more. -/
def Qc (x : List U) (o : Int) : List U := [.int (ui x 0), .int (ui x 1), .int (ui x 2), .int (ui x 3), .lst (ul x 4 ++ [[.int o]]), .bool (ub x 5)]
/-! ### What the functions give -/
def QF (xs : LL) (KZ now sp : Int) : List U := [.int (Ft (ln xs + 1)), .int KZ, .int now, .int (HN now sp), .lst [], .bool false]
def SY (ps os : LL) (sp : Int) (xs : LL) (KZ now : Int) : Bool := LP ps os sp xs && LP ps os sp (xs ++ [QF xs KZ now sp])
def SZ (ps os : LL) (sp : Int) (xs : LL) (KZ now : Int) : LL := bif SY ps os sp xs KZ now then xs ++ [QF xs KZ now sp] else xs
def HV (xs : LL) (id : Int) : Nat := (Ft (id - 1)).toNat
def Lk (ps os : LL) (sp : Int) (xs : LL) (id o now : Int) : Bool := LP ps os sp xs && (within id 1 (ln xs) && (!(ub (xs.getD (HV xs id) []) 5) && (On (ui (xs.getD (HV xs id) []) 2) (ui (xs.getD (HV xs id) []) 3) now && has os o)))
def MH (ps os : LL) (sp : Int) (xs : LL) (id o now : Int) : LL := bif Lk ps os sp xs id o now then xs.set (HV xs id) (Qc (xs.getD (HV xs id) []) o) else xs
/-- What is known of emergencies: rows of their type, of no more than n parts. -/
def Ku (n : Nat) (xs : LL) : Prop := WR Fw.ct 94 xs ∧ Fx xs ≤ n
theorem Ku.mono {n m : Nat} {xs : LL} (h : Ku n xs) (nJ : n ≤ m) : Ku m xs := ⟨h.1, Nat.le_trans h.2 nJ⟩
theorem Od {xs : LL} {id : Int} (hl : xs.length ≤ 1048576) (h : within id 1 (ln xs) = true) : HV xs id < xs.length ∧ Ft (id - 1) = (HV xs id : Int) ∧ id = ((HV xs id + 1 : Nat) : Int) := by
 obtain ⟨w1, w2⟩ := LF h
 have w2 : id ≤ (xs.length : Int) := w2
 have e : Ft (id - 1) = id - 1 := Rt (by omega) (by omega)
 unfold HV
 rw [e]
 omega
theorem QG {xs : LL} (h : WR Fw.ct 94 xs) {i : Nat} (hi : i < xs.length) : xs.getD i [] = [.int (ui (xs.getD i []) 0), .int (ui (xs.getD i []) 1), .int (ui (xs.getD i []) 2), .int (ui (xs.getD i []) 3), .lst (ul (xs.getD i []) 4), .bool (ub (xs.getD i []) 5)] ∧ WR Fw.ct 3 (ul (xs.getD i []) 4) ∧ Fx (ul (xs.getD i []) 4) + 1 ≤ Fx xs := by
 obtain ⟨a, b, c, d, u, e, hr, hu⟩ := Lx (h.2 _ (FB hi (z := [])))
 have hc := FX (FB hi (z := []))
 rw [hr] at hc ⊢
 simp only [FP, FV] at hc
 exact ⟨rfl, hu, by show Fx u + 1 ≤ _; omega⟩
theorem Ku.decl {n : Nat} {ps os : LL} {sp : Int} {xs : LL} (h : Ku n xs) (hn : n ≤ 1048576) {KZ now : Int} (hp : -9223372036854775808 ≤ KZ ∧ KZ ≤ 9223372036854775807) (hw : -9223372036854775808 ≤ now ∧ now ≤ 9223372036854775807) : Ku (n + 2) (SZ ps os sp xs KZ now) := by
 obtain ⟨h1, h2⟩ := h
 have hl := FF xs
 unfold SZ
 cases SY ps os sp xs KZ now
 ·exact ⟨h1, by show Fx xs ≤ n + 2; omega⟩
 ·have e1 : Ft (ln xs + 1) = ((xs.length + 1 : Nat) : Int) := HS (by omega)
  have e2 : 0 ≤ HN now sp ∧ HN now sp ≤ 20000 := by
   unfold HN
   split
   ·rename_i hc
    rw [Bool.and_eq_true] at hc
    obtain ⟨q1, q2⟩ := LF hc.1
    obtain ⟨q3, q4⟩ := LF hc.2
    omega
   ·omega
  refine ⟨WR.app h1 (WR.one ?_) (by simp; omega), ?_⟩
  ·show zx Fw.ct [.int .i64, .int .i64, .int .i64, .int .i64, .aj 3, .bool] _
   exact Jh (Kt (by rw [e1]; omega)) (Jh (Kt hp) (Jh (Kt hw) (Jh (Kt (by omega)) (Jh (WR.SC ⟨by simp, fun x hx => by simp at hx⟩) (Jh (.bool false) Rv)))))
  ·show Fx (xs ++ [QF xs KZ now sp]) ≤ n + 2
   rw [QE]
   simp [QF, Fx, FP, FV]
   omega
theorem Ku.use {n : Nat} {ps os : LL} {sp : Int} {xs : LL} (h : Ku n xs) (hn : n ≤ 1048576) {id o now : Int} (ho : -9223372036854775808 ≤ o ∧ o ≤ 9223372036854775807) : Ku (n + 1) (MH ps os sp xs id o now) := by
 obtain ⟨h1, h2⟩ := h
 have hl := FF xs
 unfold MH
 cases hB : Lk ps os sp xs id o now
 ·exact ⟨h1, by show Fx xs ≤ n + 1; omega⟩
 ·unfold Lk at hB
  simp only [Bool.and_eq_true] at hB
  obtain ⟨hi, _, _⟩ := Od (by omega) hB.2.1
  generalize HV xs id = i at hi
  obtain ⟨r1, r2, r3⟩ := QG h1 hi
  have Tn := FF (ul (xs.getD i []) 4)
  have Lm := h1.2 _ (FB hi (z := []))
  refine ⟨⟨by show (xs.set i _).length ≤ _; rw [List.length_set]; exact h1.1, fun x hx => ?_⟩, ?_⟩
  ·rcases List.mem_or_eq_of_mem_set hx with hx | rfl
   ·exact h1.2 x hx
   ·rw [r1] at Lm
    exact Lm.set (i := 4) (ct := .aj 3) rfl (WR.app r2 (WR.one (e := 3) (Jh (Kt ho) Rv)) (by show _ + 1 ≤ _; omega)).SC
  ·have xq := RL (r := Qc (xs.getD i []) o) hi
   have q1 : FP (xs.getD i []) = Fx (ul (xs.getD i []) 4) := by
    obtain ⟨a, b, c, d, u, e, hr, hu⟩ := Lx Lm
    rw [hr]
    show FP [U.int a, U.int b, U.int c, U.int d, U.lst u, U.bool e] = Fx u
    simp [FP, FV]
   have q2 : FP (Qc (xs.getD i []) o) = Fx (ul (xs.getD i []) 4) + 1 := by simp [Qc, FP, FV, QE, Fx]
   show Fx (xs.set i _) ≤ n + 1
   omega
theorem Up {xs : LL} (h : WR Fw.ct 94 xs) {i : Nat} (hi : i < xs.length) (o : Int) : bY xs i 4 [.lst (ul (xs.getD i []) 4 ++ [[U.int o]])] = xs.set i (Qc (xs.getD i []) o) := by
 rw [Gm]
 obtain ⟨r1, _⟩ := QG h hi
 generalize xs.getD i [] = x at r1 ⊢
 rw [r1]; rfl
theorem Yp (ps os : LL) (sp : Int) (xs : LL) (hp : ps.length ≤ 1048576) (ho : os.length ≤ 1048576) (n : Nat) (h : Ku n xs) (hn : n ≤ 1048576) (id o now : Int) : PX.c ps os sp xs id o now = some ⟨[[.lst (MH ps os sp xs id o now)], [.bool (Lk ps os sp xs id o now)]], []⟩ := by
 have hl := FF xs
 have h2 := h.2
 rw [PX.eq, Uc _ h.1 (by omega), XX _ _ _ _ h.1 (by omega) hp ho, UE, MD, Yq, SA _ (by omega)]
 simp only [q0, qb, ql]
 unfold MH Lk
 cases LP ps os sp xs
 ·rfl
 cases hw : within id 1 (ln xs)
 ·rfl
 obtain ⟨hi, e1, e2⟩ := Od (by omega) hw
 generalize HV xs id = i at hi e1 e2 ⊢
 obtain ⟨r1, r2, r3⟩ := QG h.1 hi
 have Tn := FF (ul (xs.getD i []) 4)
 have RY : gl xs (i : Int) 4 = ul (xs.getD i []) 4 := rfl
 have lM : room ((ul (xs.getD i []) 4).length + [[U.int o]].length) 8 = true := FW (by show (_ + 1) * 8 ≤ _; omega) (by show _ + 1 ≤ _; omega)
 simp only [e1, GH hi, MN, Bool.not_true, cond_false, RY, lM]
 have lq : gb xs (i : Int) 5 = ub (xs.getD i []) 5 := rfl
 have lp : gi xs (i : Int) 2 = ui (xs.getD i []) 2 := rfl
 have RX : gi xs (i : Int) 3 = ui (xs.getD i []) 3 := rfl
 rw [lq, lp, RX]
 have e3 := Up h.1 hi o
 cases ub (xs.getD i []) 5
 ·cases On (ui (xs.getD i []) 2) (ui (xs.getD i []) 3) now
  ·rfl
  cases has os o
  ·rfl
  rw [← e3]
  show EK (decide True) _ = _
  rw [decide_eq_true trivial]; rfl
 ·rfl
theorem WX (ps os : LL) (sp : Int) (xs : LL) (hp : ps.length ≤ 1048576) (ho : os.length ≤ 1048576) (n : Nat) (h : Ku n xs) (hn : n ≤ 1048576) (id o now : Int) : Oj.c ps os sp xs id o now = some ⟨[[.lst (MH ps os sp xs id o now)], [.bool (Lk ps os sp xs id o now)]], []⟩ := by
 have hl := FF xs
 have h2 := h.2
 rw [Oj.eq, Tp _ h.1 (by omega), WB _ _ _ _ h.1 (by omega) hp ho, LK, WY, Sa _ (by omega)]
 simp only [q0, qb, ql]
 unfold MH Lk
 cases LP ps os sp xs
 ·rfl
 cases hw : within id 1 (ln xs)
 ·rfl
 obtain ⟨hi, e1, e2⟩ := Od (by omega) hw
 generalize HV xs id = i at hi e1 e2 ⊢
 obtain ⟨r1, r2, r3⟩ := QG h.1 hi
 have Tn := FF (ul (xs.getD i []) 4)
 have RY : gl xs (i : Int) 4 = ul (xs.getD i []) 4 := rfl
 have lM : room ((ul (xs.getD i []) 4).length + [[U.int o]].length) 8 = true := FW (by show (_ + 1) * 8 ≤ _; omega) (by show _ + 1 ≤ _; omega)
 simp only [e1, GH hi, MN, Bool.not_true, cond_false, RY, lM]
 have lq : gb xs (i : Int) 5 = ub (xs.getD i []) 5 := rfl
 have lp : gi xs (i : Int) 2 = ui (xs.getD i []) 2 := rfl
 have RX : gi xs (i : Int) 3 = ui (xs.getD i []) 3 := rfl
 rw [lq, lp, RX]
 have e3 := Up h.1 hi o
 cases ub (xs.getD i []) 5
 ·cases On (ui (xs.getD i []) 2) (ui (xs.getD i []) 3) now
  ·rfl
  cases has os o
  ·rfl
  rw [← e3]
  show EK (decide True) _ = _
  rw [decide_eq_true trivial]; rfl
 ·rfl
end Go.Proofs.YtaghmjcfaplkiaaGreat.Eng
/- half -/
