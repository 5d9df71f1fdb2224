/- Lists in order: shared facts, issuers, epochs, revocations, shares. -/
import Derived.Test.YteahcmobjegpnaaGreatPA8
namespace Go.Proofs.YteahcmobjegpnaaGreat.Eng
open Go.RowKit
set_option linter.unusedVariables false
set_option linter.unusedSimpArgs false
set_option linter.unusedSectionVars false
set_option maxRecDepth 100000
variable [Sm]
/-- No neighbours of which the test says that they stand wrong. -/
def adj (bad : List U → List U → Bool) (xs : LL) : Nat → Bool
  | 0 => true
  | i + 1 => !bad (xs.getD i []) (xs.getD (i + 1) [])
theorem w_pred {i : Nat} (h : i ≤ 4611686018427387904) : w64 (((i + 1 : Nat) : Int) - 1) = (i : Int) := by rw [w64_id (by omega) (by omega)]; omega
theorem pos_succ {i : Nat} : decide (((i + 1 : Nat) : Int) > 0) = true := decide_eq_true (by omega)
def ordered (good : List U → Bool) (bad : List U → List U → Bool) (xs : LL) : Bool := (List.range xs.length).all fun i => good (xs.getD i []) && adj bad xs i
def up0 (a b : List U) : Bool := decide (v0 a ≥ v0 b)
def inLH (lo hi : Int) (x : List U) : Bool := within (v0 x) lo hi
theorem i_asc (xs : LL) (hx : xs.length ≤ 1048576) (m M : Int) : impl_isAscending.c xs m M = rB (ordered (inLH m M) up0 xs && true) := by
  rw [impl_isAscending.eq]
  refine all_loop2 (l0 := fun i => impl_isAscending.l0 xs m M xs _ i) (n := xs.length) (p := fun i => (inLH m M) (xs.getD i []) && adj up0 xs i) (b := true) ?_ fun i hi => ?_
  · rw [impl_isAscending.l0_eq, not_lt_nat (Nat.le_refl _)]; rfl
  · have hi0 := hi
    rw [impl_isAscending.l0_eq, lt_nat hi, in_nat hi, w64_nat (by omega), i_in]
    show (bif !within (v0 (xs.getD i [])) m M then _ else _) = bif (inLH m M) (xs.getD i []) && adj up0 xs i then _ else rB false
    unfold inLH
    cases within (v0 (xs.getD i [])) m M
    · rfl
    cases i with
    | zero => rfl
    | succ i =>
      rw [w_pred (by omega), in_nat (show i < xs.length by omega), pos_succ]
      show (bif decide (v0 (xs.getD i []) ≥ v0 (xs.getD (i + 1) [])) then _ else _) = bif !((decide (v0 (xs.getD i []) ≥ v0 (xs.getD (i + 1) [])))) then _ else rB false
      cases decide (v0 (xs.getD i []) ≥ v0 (xs.getD (i + 1) [])) <;> rfl
def okRev (x : List U) : Bool := within (ui x 0) 1 9999 && within (ui x 1) 0 10000
def areRev (xs : LL) : Bool := ordered okRev up0 xs && decide (ln xs ≤ 40)
theorem s_areRev (xs : LL) (hx : xs.length ≤ 1048576) : spec_AreRevoked.c xs = rB (ordered okRev up0 xs && decide (ln xs ≤ 40)) := by
  rw [spec_AreRevoked.eq]
  refine all_loop2 (l0 := fun i => spec_AreRevoked.l0 xs i) (n := xs.length) (p := fun i => okRev (xs.getD i []) && adj up0 xs i) (b := decide (ln xs ≤ 40)) ?_ fun i hi => ?_
  · rw [spec_AreRevoked.l0_eq, not_lt_nat (Nat.le_refl _)]; rfl
  · have hi0 := hi
    rw [spec_AreRevoked.l0_eq, lt_nat hi, in_nat hi, w64_nat (by omega), s_in, s_time]
    show (bif !within (ui (xs.getD i []) 0) 1 9999 then _ else bif !within (ui (xs.getD i []) 1) 0 10000 then _ else _) = bif okRev (xs.getD i []) && adj up0 xs i then _ else rB false
    unfold okRev
    cases within (ui (xs.getD i []) 0) 1 9999
    · rfl
    cases within (ui (xs.getD i []) 1) 0 10000
    · rfl
    cases i with
    | zero => rfl
    | succ i =>
      rw [w_pred (by omega), in_nat (show i < xs.length by omega), pos_succ]
      show (bif decide (v0 (xs.getD i []) ≥ v0 (xs.getD (i + 1) [])) then _ else _) = bif !((decide (v0 (xs.getD i []) ≥ v0 (xs.getD (i + 1) [])))) then _ else rB false
      cases decide (v0 (xs.getD i []) ≥ v0 (xs.getD (i + 1) [])) <;> rfl
theorem i_areRev (xs : LL) (hx : xs.length ≤ 1048576) : impl_AreRevoked.c xs = rB (ordered okRev up0 xs && decide (ln xs ≤ 40)) := by
  rw [impl_AreRevoked.eq]
  refine all_loop2 (l0 := fun i => impl_AreRevoked.l0 xs xs _ i) (n := xs.length) (p := fun i => okRev (xs.getD i []) && adj up0 xs i) (b := decide (ln xs ≤ 40)) ?_ fun i hi => ?_
  · rw [impl_AreRevoked.l0_eq, not_lt_nat (Nat.le_refl _)]; rfl
  · have hi0 := hi
    rw [impl_AreRevoked.l0_eq, lt_nat hi, in_nat hi, w64_nat (by omega), i_in, i_time]
    show (bif !within (ui (xs.getD i []) 0) 1 9999 then _ else bif !within (ui (xs.getD i []) 1) 0 10000 then _ else _) = bif okRev (xs.getD i []) && adj up0 xs i then _ else rB false
    unfold okRev
    cases within (ui (xs.getD i []) 0) 1 9999
    · rfl
    cases within (ui (xs.getD i []) 1) 0 10000
    · rfl
    cases i with
    | zero => rfl
    | succ i =>
      rw [w_pred (by omega), in_nat (show i < xs.length by omega), pos_succ]
      show (bif decide (v0 (xs.getD i []) ≥ v0 (xs.getD (i + 1) [])) then _ else _) = bif !((decide (v0 (xs.getD i []) ≥ v0 (xs.getD (i + 1) [])))) then _ else rB false
      cases decide (v0 (xs.getD i []) ≥ v0 (xs.getD (i + 1) [])) <;> rfl
def lex4 (a0 a1 a2 a3 b0 b1 b2 b3 : Int) : Bool := bif !decide (a0 = b0) then decide (a0 < b0) else bif !decide (a1 = b1) then decide (a1 < b1) else bif !decide (a2 = b2) then decide (a2 < b2) else decide (a3 < b3)
theorem s_before (a0 a1 a2 a3 a4 a5 b0 b1 b2 b3 b4 b5 : Int) : spec_FactBefore.c a0 a1 a2 a3 a4 a5 b0 b1 b2 b3 b4 b5 = rB (lex4 a0 a1 a2 a3 b0 b1 b2 b3) := by simp only [spec_FactBefore.eq, cB]; rfl
def cmp4 (a0 a1 a2 a3 b0 b1 b2 b3 : Int) : Int := bif decide (a0 < b0) then -1 else bif decide (a0 > b0) then 1 else bif decide (a1 < b1) then -1 else bif decide (a1 > b1) then 1 else bif decide (a2 < b2) then -1 else bif decide (a2 > b2) then 1 else bif decide (a3 < b3) then -1 else bif decide (a3 > b3) then 1 else 0
theorem i_cmp (a0 a1 a2 a3 a4 a5 b0 b1 b2 b3 b4 b5 : Int) : impl_compareClaims.c a0 a1 a2 a3 a4 a5 b0 b1 b2 b3 b4 b5 = rI (cmp4 a0 a1 a2 a3 b0 b1 b2 b3) := by
  have e0 : impl_compareClaims.l0 0 a0 a1 a2 a3 b0 b1 b2 b3 = bif decide (a0 < b0) then rI (-1) else bif decide (a0 > b0) then rI 1 else impl_compareClaims.l0 1 a0 a1 a2 a3 b0 b1 b2 b3 := by rw [impl_compareClaims.l0_eq]; rfl
  have e1 : impl_compareClaims.l0 1 a0 a1 a2 a3 b0 b1 b2 b3 = bif decide (a1 < b1) then rI (-1) else bif decide (a1 > b1) then rI 1 else impl_compareClaims.l0 2 a0 a1 a2 a3 b0 b1 b2 b3 := by rw [impl_compareClaims.l0_eq]; rfl
  have e2 : impl_compareClaims.l0 2 a0 a1 a2 a3 b0 b1 b2 b3 = bif decide (a2 < b2) then rI (-1) else bif decide (a2 > b2) then rI 1 else impl_compareClaims.l0 3 a0 a1 a2 a3 b0 b1 b2 b3 := by rw [impl_compareClaims.l0_eq]; rfl
  have e3 : impl_compareClaims.l0 3 a0 a1 a2 a3 b0 b1 b2 b3 = bif decide (a3 < b3) then rI (-1) else bif decide (a3 > b3) then rI 1 else impl_compareClaims.l0 4 a0 a1 a2 a3 b0 b1 b2 b3 := by rw [impl_compareClaims.l0_eq]; rfl
  have e4 : impl_compareClaims.l0 4 a0 a1 a2 a3 b0 b1 b2 b3 = rI 0 := by rw [impl_compareClaims.l0_eq]; rfl
  rw [impl_compareClaims.eq, e0, e1, e2, e3, e4]
  simp only [cI]; rfl
theorem cmp_lex (a0 a1 a2 a3 b0 b1 b2 b3 : Int) : decide (cmp4 a0 a1 a2 a3 b0 b1 b2 b3 < 0) = lex4 a0 a1 a2 a3 b0 b1 b2 b3 := by
  have key : ∀ (a b : Int) (X : Int) (Y : Bool), decide (X < 0) = Y → decide ((bif decide (a < b) then -1 else bif decide (a > b) then 1 else X) < 0) = bif !decide (a = b) then decide (a < b) else Y := by
    intro a b X Y h
    rcases Int.lt_trichotomy a b with h1 | h1 | h1
    · rw [decide_eq_true h1, decide_eq_false (by omega : ¬ a = b)]; rfl
    · rw [decide_eq_false (by omega : ¬ a < b), decide_eq_false (by omega : ¬ a > b), decide_eq_true h1]; exact h
    · rw [decide_eq_false (by omega : ¬ a < b), decide_eq_true (by omega : a > b), decide_eq_false (by omega : ¬ a = b)]; rfl
  refine key _ _ _ _ (key _ _ _ _ (key _ _ _ _ ?_))
  rcases Int.lt_trichotomy a3 b3 with h1 | h1 | h1
  · rw [decide_eq_true h1]; rfl
  · rw [decide_eq_false (by omega : ¬ a3 < b3), decide_eq_false (by omega : ¬ a3 > b3)]; rfl
  · rw [decide_eq_false (by omega : ¬ a3 < b3), decide_eq_true (by omega : a3 > b3)]; rfl
theorem i_before (a0 a1 a2 a3 a4 a5 b0 b1 b2 b3 b4 b5 : Int) : impl_FactBefore.c a0 a1 a2 a3 a4 a5 b0 b1 b2 b3 b4 b5 = rB (lex4 a0 a1 a2 a3 b0 b1 b2 b3) := by
  rw [impl_FactBefore.eq, i_cmp]
  exact rB_inj (cmp_lex ..)
def okFact (x : List U) : Bool := isFact (ui x 0) (ui x 1) (ui x 2) (ui x 3) (ui x 4) (ui x 5)
def notLess (a b : List U) : Bool := !lex4 (ui a 0) (ui a 1) (ui a 2) (ui a 3) (ui b 0) (ui b 1) (ui b 2) (ui b 3)
def isStore (xs : LL) : Bool := ordered okFact notLess xs && decide (ln xs ≤ 30)
theorem s_store (xs : LL) (hx : xs.length ≤ 1048576) : spec_IsStore.c xs = rB (ordered okFact notLess xs && decide (ln xs ≤ 30)) := by
  rw [spec_IsStore.eq]
  refine all_loop2 (l0 := fun i => spec_IsStore.l0 xs i) (n := xs.length) (p := fun i => okFact (xs.getD i []) && adj notLess xs i) (b := decide (ln xs ≤ 30)) ?_ fun i hi => ?_
  · rw [spec_IsStore.l0_eq, not_lt_nat (Nat.le_refl _)]; rfl
  · have hi0 := hi
    rw [spec_IsStore.l0_eq, lt_nat hi, in_nat hi, w64_nat (by omega), s_fact, s_before]
    show (bif !isFact (ui (xs.getD i []) 0) (ui (xs.getD i []) 1) (ui (xs.getD i []) 2) (ui (xs.getD i []) 3) (ui (xs.getD i []) 4) (ui (xs.getD i []) 5) then _ else _) = bif okFact (xs.getD i []) && adj notLess xs i then _ else rB false
    unfold okFact
    cases isFact (ui (xs.getD i []) 0) (ui (xs.getD i []) 1) (ui (xs.getD i []) 2) (ui (xs.getD i []) 3) (ui (xs.getD i []) 4) (ui (xs.getD i []) 5)
    · rfl
    cases i with
    | zero => rfl
    | succ i =>
      rw [w_pred (by omega), in_nat (show i < xs.length by omega), pos_succ]
      show (bif !lex4 (ui (xs.getD i []) 0) (ui (xs.getD i []) 1) (ui (xs.getD i []) 2) (ui (xs.getD i []) 3) (ui (xs.getD (i + 1) []) 0) (ui (xs.getD (i + 1) []) 1) (ui (xs.getD (i + 1) []) 2) (ui (xs.getD (i + 1) []) 3) then _ else _) = bif !((!lex4 (ui (xs.getD i []) 0) (ui (xs.getD i []) 1) (ui (xs.getD i []) 2) (ui (xs.getD i []) 3) (ui (xs.getD (i + 1) []) 0) (ui (xs.getD (i + 1) []) 1) (ui (xs.getD (i + 1) []) 2) (ui (xs.getD (i + 1) []) 3))) then _ else rB false
      cases !lex4 (ui (xs.getD i []) 0) (ui (xs.getD i []) 1) (ui (xs.getD i []) 2) (ui (xs.getD i []) 3) (ui (xs.getD (i + 1) []) 0) (ui (xs.getD (i + 1) []) 1) (ui (xs.getD (i + 1) []) 2) (ui (xs.getD (i + 1) []) 3) <;> rfl
theorem i_store (xs : LL) (hx : xs.length ≤ 1048576) : impl_IsStore.c xs = rB (ordered okFact notLess xs && decide (ln xs ≤ 30)) := by
  rw [impl_IsStore.eq]
  refine all_loop2 (l0 := fun i => impl_IsStore.l0 xs xs _ i) (n := xs.length) (p := fun i => okFact (xs.getD i []) && adj notLess xs i) (b := decide (ln xs ≤ 30)) ?_ fun i hi => ?_
  · rw [impl_IsStore.l0_eq, not_lt_nat (Nat.le_refl _)]; rfl
  · have hi0 := hi
    rw [impl_IsStore.l0_eq, lt_nat hi, in_nat hi, w64_nat (by omega), i_fact, i_before]
    show (bif !isFact (ui (xs.getD i []) 0) (ui (xs.getD i []) 1) (ui (xs.getD i []) 2) (ui (xs.getD i []) 3) (ui (xs.getD i []) 4) (ui (xs.getD i []) 5) then _ else _) = bif okFact (xs.getD i []) && adj notLess xs i then _ else rB false
    unfold okFact
    cases isFact (ui (xs.getD i []) 0) (ui (xs.getD i []) 1) (ui (xs.getD i []) 2) (ui (xs.getD i []) 3) (ui (xs.getD i []) 4) (ui (xs.getD i []) 5)
    · rfl
    cases i with
    | zero => rfl
    | succ i =>
      rw [w_pred (by omega), in_nat (show i < xs.length by omega), pos_succ]
      show (bif !lex4 (ui (xs.getD i []) 0) (ui (xs.getD i []) 1) (ui (xs.getD i []) 2) (ui (xs.getD i []) 3) (ui (xs.getD (i + 1) []) 0) (ui (xs.getD (i + 1) []) 1) (ui (xs.getD (i + 1) []) 2) (ui (xs.getD (i + 1) []) 3) then _ else _) = bif !((!lex4 (ui (xs.getD i []) 0) (ui (xs.getD i []) 1) (ui (xs.getD i []) 2) (ui (xs.getD i []) 3) (ui (xs.getD (i + 1) []) 0) (ui (xs.getD (i + 1) []) 1) (ui (xs.getD (i + 1) []) 2) (ui (xs.getD (i + 1) []) 3))) then _ else rB false
      cases !lex4 (ui (xs.getD i []) 0) (ui (xs.getD i []) 1) (ui (xs.getD i []) 2) (ui (xs.getD i []) 3) (ui (xs.getD (i + 1) []) 0) (ui (xs.getD (i + 1) []) 1) (ui (xs.getD (i + 1) []) 2) (ui (xs.getD (i + 1) []) 3) <;> rfl
end Go.Proofs.YteahcmobjegpnaaGreat.Eng
