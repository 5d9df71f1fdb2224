/- Policies, decisions, points. -/
import Derived.Test.YteahcmobjegpnaaGreatPA5
namespace Go.Proofs.YteahcmobjegpnaaGreat.Eng
open Go.RowKit
set_option linter.unusedVariables false
set_option linter.unusedSimpArgs false
set_option linter.unusedSectionVars false
set_option maxRecDepth 100000
variable [Sm]
theorem i_eval (hB : BelowOk) (l s : LL) (hl : l.length ≤ 4611686018427387904) (hs : s.length ≤ 1048576) (p d g ac ob now : Int) : ∀ (n : Nat) (o a b : Int) (xs : LL), validC n o a b xs = true → impl_evalWith__impl_EvalCond_1.c o a b xs l s p d g ac ob now = rB (evalC l s p d g now n o a b xs)
  | 0, o, a, b, xs, h => by cases h
  | n + 1, o, a, b, xs, h => by
    have h : (nodeOk o a b xs.length && xs.all fun x => validC n (ui x 0) (ui x 1) (ui x 2) (ul x 3)) = true := h
    rw [Bool.and_eq_true] at h
    obtain ⟨h1, h2⟩ := h
    have hn : (xs.length : Int) = arity o := by
      unfold nodeOk at h1
      rw [Bool.and_eq_true] at h1
      exact of_decide_eq_true h1.1
    have sub : ∀ i : Nat, i < xs.length → impl_evalWith__impl_EvalCond_1.c (gi xs i 0) (gi xs i 1) (gi xs i 2) (gl xs i 3) l s p d g ac ob now = rB (evalC l s p d g now n (gi xs i 0) (gi xs i 1) (gi xs i 2) (gl xs i 3)) := fun i hi => by
      have := List.all_eq_true.1 h2 _ (getD_mem hi (z := []))
      exact i_eval hB l s hl hs p d g ac ob now n _ _ _ _ this
    rw [impl_evalWith__impl_EvalCond_1.eq]
    by_cases h7 : o = 7
    · subst h7
      have hl1 : xs.length = 1 := by have : arity 7 = 1 := rfl; omega
      have s0 := sub 0 (by omega)
      rw [hl1]
      show ((impl_evalWith__impl_EvalCond_1.c (gi xs 0 0) (gi xs 0 1) (gi xs 0 2) (gl xs 0 3) l s p d g ac ob now).bind _) = _
      rw [show impl_evalWith__impl_EvalCond_1.c (gi xs 0 0) (gi xs 0 1) (gi xs 0 2) (gl xs 0 3) l s p d g ac ob now = _ from s0]; rfl
    by_cases h8 : o = 8
    · subst h8
      have hl1 : xs.length = 2 := by have : arity 8 = 2 := rfl; omega
      have s0 := sub 0 (by omega)
      have s1 := sub 1 (by omega)
      rw [hl1]
      show ((impl_evalWith__impl_EvalCond_1.c (gi xs 0 0) (gi xs 0 1) (gi xs 0 2) (gl xs 0 3) l s p d g ac ob now).bind fun r1 => bif r1.b 0 then ((impl_evalWith__impl_EvalCond_1.c (gi xs 1 0) (gi xs 1 1) (gi xs 1 2) (gl xs 1 3) l s p d g ac ob now).bind _) else _) = _
      rw [show impl_evalWith__impl_EvalCond_1.c (gi xs 0 0) (gi xs 0 1) (gi xs 0 2) (gl xs 0 3) l s p d g ac ob now = _ from s0, show impl_evalWith__impl_EvalCond_1.c (gi xs 1 0) (gi xs 1 1) (gi xs 1 2) (gl xs 1 3) l s p d g ac ob now = _ from s1]
      simp only [q0, qb, cB, ctf]; rfl
    by_cases h9 : o = 9
    · subst h9
      have hl1 : xs.length = 2 := by have : arity 9 = 2 := rfl; omega
      have s0 := sub 0 (by omega)
      have s1 := sub 1 (by omega)
      rw [hl1]
      show ((impl_evalWith__impl_EvalCond_1.c (gi xs 0 0) (gi xs 0 1) (gi xs 0 2) (gl xs 0 3) l s p d g ac ob now).bind fun r1 => bif r1.b 0 then rB true else ((impl_evalWith__impl_EvalCond_1.c (gi xs 1 0) (gi xs 1 1) (gi xs 1 2) (gl xs 1 3) l s p d g ac ob now).bind _)) = _
      rw [show impl_evalWith__impl_EvalCond_1.c (gi xs 0 0) (gi xs 0 1) (gi xs 0 2) (gl xs 0 3) l s p d g ac ob now = _ from s0, show impl_evalWith__impl_EvalCond_1.c (gi xs 1 0) (gi xs 1 1) (gi xs 1 2) (gl xs 1 3) l s p d g ac ob now = _ from s1]
      simp only [q0, qb, cB, cft]; rfl
    rw [decide_eq_false h7, decide_eq_false h8, decide_eq_false h9, impl_EvalCond_1.eq, i_leaf hB l s hl hs]
    show rB _ = rB (bif decide (o = 7) then _ else bif decide (o = 8) then _ else bif decide (o = 9) then _ else _)
    rw [decide_eq_false h7, decide_eq_false h8, decide_eq_false h9]; rfl
noncomputable def evalB (l s : LL) (p d g now : Int) (o a b : Int) (xs : LL) : Bool := isCond o a b xs && evalC l s p d g now (cntRs xs + 1) o a b xs
theorem isCond_valid {o a b : Int} {xs : LL} (h : isCond o a b xs = true) : validC (cntRs xs + 1) o a b xs = true := by
  unfold isCond at h
  rw [Bool.and_eq_true] at h
  exact h.2
theorem s_evalCond (l s : LL) (hl : l.length ≤ 4611686018427387904) (hs : s.length ≤ 4611686018427387904) (o a b : Int) (xs : LL) (hx : cntRs xs ≤ 1099511627776) (p d g ac ob now : Int) : spec_EvalCond.c l s o a b xs p d g ac ob now = rB (evalB l s p d g now o a b xs) := by
  rw [spec_EvalCond.eq, s_cond o a b xs hx]
  simp only [q0, qb]
  unfold evalB
  cases h : isCond o a b xs
  · rfl
  · rw [cond_true, s_eval l s hl hs p d g ac ob now _ o a b xs (isCond_valid h)]; rfl
theorem i_evalCond (hB : BelowOk) (l s : LL) (hl : l.length ≤ 4611686018427387904) (hs : s.length ≤ 1048576) (o a b : Int) (xs : LL) (hx : cntRs xs ≤ 1099511627776) (p d g ac ob now : Int) : impl_EvalCond.c l s o a b xs p d g ac ob now = rB (evalB l s p d g now o a b xs) := by
  rw [impl_EvalCond.eq, i_cond o a b xs hx]
  simp only [q0, qb]
  unfold evalB
  cases h : isCond o a b xs
  · rfl
  · rw [cond_true, i_eval hB l s hl hs p d g ac ob now _ o a b xs (isCond_valid h)]; rfl
def isRule (e a ob o x y : Int) (xs : LL) : Bool := within e 0 1 && (within a (-1) 5 && (bif decide (ob = -1) then isCond o x y xs else (hasKind ob 4 && isCond o x y xs)))
theorem s_rule (e a ob o x y : Int) (xs : LL) (h : cntRs xs ≤ 1099511627776) : spec_IsRule.c e a ob o x y xs = rB (isRule e a ob o x y xs) := by
  simp only [spec_IsRule.eq, s_in, s_kind, s_cond o x y xs h, q0, qb, cB, ctf]; rfl
theorem i_rule (e a ob o x y : Int) (xs : LL) (h : cntRs xs ≤ 1099511627776) : impl_IsRule.c e a ob o x y xs = rB (isRule e a ob o x y xs) := by
  simp only [impl_IsRule.eq, i_in, i_kind, i_cond o x y xs h, q0, qb, cB, ctf]; rfl
def ruleOk (x : List U) : Bool := isRule (ui x 0) (ui x 1) (ui x 2) (ui x 3) (ui x 4) (ui x 5) (ul x 6)
def isPolicy (v : Int) (rs : LL) : Bool := rs.all ruleOk && (within v 0 999 && decide (ln rs ≤ 8))
theorem s_policy (v : Int) (rs : LL) (h : cntRs rs ≤ 1099511627776) : spec_IsPolicy.c v rs = rB (isPolicy v rs) := by
  have hl := cntRs_length rs
  rw [spec_IsPolicy.eq]
  refine (all_loop2 (l0 := fun i => spec_IsPolicy.l0 i v rs) (n := rs.length) (p := fun i => ruleOk (rs.getD i [])) (b := within v 0 999 && decide (ln rs ≤ 8)) ?_ fun i hi => ?_).trans (by rw [range_all rs [] ruleOk]; rfl)
  · rw [spec_IsPolicy.l0_eq, not_lt_nat (Nat.le_refl _)]
    simp only [s_in, q0, qb, cB, ctf, cond_false]
  · have := sub_lt hi 6
    have hr := s_rule (ui (rs.getD i []) 0) (ui (rs.getD i []) 1) (ui (rs.getD i []) 2) (ui (rs.getD i []) 3) (ui (rs.getD i []) 4) (ui (rs.getD i []) 5) (ul (rs.getD i []) 6) (by omega)
    rw [spec_IsPolicy.l0_eq, lt_nat hi, in_nat hi, w64_nat (by omega)]
    show ((spec_IsRule.c (ui (rs.getD i []) 0) (ui (rs.getD i []) 1) (ui (rs.getD i []) 2) (ui (rs.getD i []) 3) (ui (rs.getD i []) 4) (ui (rs.getD i []) 5) (ul (rs.getD i []) 6)).bind _) = _
    rw [hr]
    show (bif !ruleOk (rs.getD i []) then _ else _) = _
    cases ruleOk (rs.getD i []) <;> rfl
theorem i_policy (v : Int) (rs : LL) (h : cntRs rs ≤ 1099511627776) : impl_IsPolicy.c v rs = rB (isPolicy v rs) := by
  have hl := cntRs_length rs
  have hf : slices_IndexFunc__impl_IsPolicy_1.c rs = rI (posL rs fun x => !ruleOk x) := by
    rw [slices_IndexFunc__impl_IsPolicy_1.eq]
    refine find_loop (l0 := fun i => slices_IndexFunc__impl_IsPolicy_1.l0 rs _ i) (n := rs.length) (p := fun i => !ruleOk (rs.getD i [])) ?_ fun i hi => ?_
    · rw [slices_IndexFunc__impl_IsPolicy_1.l0_eq, not_lt_nat (Nat.le_refl _)]; rfl
    · have := sub_lt hi 6
      have hr := i_rule (ui (rs.getD i []) 0) (ui (rs.getD i []) 1) (ui (rs.getD i []) 2) (ui (rs.getD i []) 3) (ui (rs.getD i []) 4) (ui (rs.getD i []) 5) (ul (rs.getD i []) 6) (by omega)
      rw [slices_IndexFunc__impl_IsPolicy_1.l0_eq, lt_nat hi, in_nat hi, w64_nat (by omega), impl_IsPolicy_1.eq]
      show (((impl_IsRule.c (ui (rs.getD i []) 0) (ui (rs.getD i []) 1) (ui (rs.getD i []) 2) (ui (rs.getD i []) 3) (ui (rs.getD i []) 4) (ui (rs.getD i []) 5) (ul (rs.getD i []) 6)).bind _).bind _) = _
      rw [hr]; rfl
  have e : decide (posL rs (fun x => !ruleOk x) ≥ 0) = rs.any fun x => !ruleOk x := any_pos fun x => !ruleOk x
  simp only [impl_IsPolicy.eq, i_in, slices_ContainsFunc__impl_IsPolicy_1.eq, hf, q0, qb, qi, cB, ctf]
  show rB (within v 0 999 && (decide (ln rs ≤ 8) && !decide (posL rs (fun x => !ruleOk x) ≥ 0))) = _
  rw [e]
  unfold isPolicy
  rw [List.all_eq_not_any_not]
  cases rs.any _ <;> cases within v 0 999 <;> cases decide (ln rs ≤ 8) <;> rfl
def isFor (a b act obj : Int) : Bool := (decide (a = -1) || decide (a = act)) && (decide (b = -1) || decide (b = obj))
theorem s_for (e a b o x y : Int) (xs : LL) (act obj : Int) : spec_IsFor.c e a b o x y xs act obj = rB (isFor a b act obj) := by
  rw [spec_IsFor.eq]; unfold isFor
  cases decide (a = -1) <;> cases decide (a = act) <;> cases decide (b = -1) <;> rfl
theorem i_for (e a b o x y : Int) (xs : LL) (act obj : Int) : impl_IsFor.c e a b o x y xs act obj = rB (isFor a b act obj) := by
  rw [impl_IsFor.eq]; unfold isFor
  cases decide (a = -1) <;> cases decide (a = act) <;> cases decide (b = -1) <;> rfl
noncomputable def ruleHolds (l s : LL) (p d g ac ob now : Int) (x : List U) : Bool := isFor (ui x 1) (ui x 2) ac ob && evalB l s p d g now (ui x 3) (ui x 4) (ui x 5) (ul x 6)
noncomputable def holdL (l s rs : LL) (p d g ac ob now : Int) : LL := ((List.range rs.length).filter fun i => ruleHolds l s p d g ac ob now (rs.getD i [])).map fun i : Nat => [U.int (i : Int)]
theorem s_holding (l s rs : LL) (v : Int) (hl : l.length ≤ 4611686018427387904) (hs : s.length ≤ 4611686018427387904) (hr : cntRs rs ≤ 1099511627776) (p d g ac ob now : Int) : spec_RulesThatHold.c l s v rs p d g ac ob now = rL (holdL l s rs p d g ac ob now) := by
  have hlen := cntRs_length rs
  rw [spec_RulesThatHold.eq]
  refine gather_loop (l0 := fun i acc => spec_RulesThatHold.l0 l s i v rs p d g ac ob now acc) (n := rs.length) (p := fun i => ruleHolds l s p d g ac ob now (rs.getD i [])) (row := fun i => [U.int (i : Int)]) (R := fun acc => rL acc) (fun acc ha => ?_) fun i hi acc ha => ?_
  · rw [spec_RulesThatHold.l0_eq, not_lt_nat (Nat.le_refl _)]; rfl
  · have := sub_lt hi 6
    rw [spec_RulesThatHold.l0_eq, lt_nat hi, in_nat hi, w64_nat (by omega), s_evalCond l s hl hs _ _ _ _ (by show cntRs (ul (rs.getD i []) 6) ≤ _; omega), s_for, room_true (by simp; omega) (by simp; omega)]
    show (bif isFor (ui (rs.getD i []) 1) (ui (rs.getD i []) 2) ac ob then (bif evalB l s p d g now (ui (rs.getD i []) 3) (ui (rs.getD i []) 4) (ui (rs.getD i []) 5) (ul (rs.getD i []) 6) then _ else _) else _) = _
    unfold ruleHolds
    cases isFor (ui (rs.getD i []) 1) (ui (rs.getD i []) 2) ac ob
    · rfl
    cases evalB l s p d g now (ui (rs.getD i []) 3) (ui (rs.getD i []) 4) (ui (rs.getD i []) 5) (ul (rs.getD i []) 6) <;> rfl
theorem i_holding (hB : BelowOk) (l s rs : LL) (v : Int) (hl : l.length ≤ 4611686018427387904) (hs : s.length ≤ 1048576) (hr : cntRs rs ≤ 1099511627776) (p d g ac ob now : Int) : impl_RulesThatHold.c l s v rs p d g ac ob now = rL (holdL l s rs p d g ac ob now) := by
  have hlen := cntRs_length rs
  rw [impl_RulesThatHold.eq]
  refine gather_loop (l0 := fun i acc => impl_RulesThatHold.l0 l s rs _ i p d g ac ob now acc) (n := rs.length) (p := fun i => ruleHolds l s p d g ac ob now (rs.getD i [])) (row := fun i => [U.int (i : Int)]) (R := fun acc => rL acc) (fun acc ha => ?_) fun i hi acc ha => ?_
  · rw [impl_RulesThatHold.l0_eq, not_lt_nat (Nat.le_refl _)]; rfl
  · have := sub_lt hi 6
    rw [impl_RulesThatHold.l0_eq, lt_nat hi, in_nat hi, w64_nat (by omega), i_evalCond hB l s hl hs _ _ _ _ (by show cntRs (ul (rs.getD i []) 6) ≤ _; omega), i_for, room_true (by simp; omega) (by simp; omega)]
    show (bif isFor (ui (rs.getD i []) 1) (ui (rs.getD i []) 2) ac ob then (bif evalB l s p d g now (ui (rs.getD i []) 3) (ui (rs.getD i []) 4) (ui (rs.getD i []) 5) (ul (rs.getD i []) 6) then _ else _) else _) = _
    unfold ruleHolds
    cases isFor (ui (rs.getD i []) 1) (ui (rs.getD i []) 2) ac ob
    · rfl
    cases evalB l s p d g now (ui (rs.getD i []) 3) (ui (rs.getD i []) 4) (ui (rs.getD i []) 5) (ul (rs.getD i []) 6) <;> rfl
end Go.Proofs.YteahcmobjegpnaaGreat.Eng
