/- Conditions: whether they are valid, whether they hold. -/
import Derived.Test.YteahcmobjegpnaaGreatPA3
namespace Go.Proofs.YteahcmobjegpnaaGreat.Eng
open Go.RowKit
set_option linter.unusedVariables false
set_option linter.unusedSimpArgs false
set_option linter.unusedSectionVars false
set_option maxRecDepth 100000
variable [Sm]
theorem cntRs_ul : ∀ (x : List U) (k : Nat), cntRs (ul x k) ≤ cntR x
  | [], k => by simp [ul, cntRs, U.toLst]
  | u :: us, 0 => by
    simp only [ul, List.getD_cons_zero, cntR]
    cases u <;> simp [U.toLst, cntRs, cntU]
  | u :: us, k + 1 => by
    have := cntRs_ul us k
    simp only [ul, List.getD_cons_succ, cntR] at this ⊢
    omega
theorem sub_lt {xs : LL} {i : Nat} (hi : i < xs.length) (k : Nat) : cntRs (ul (xs.getD i []) k) < cntRs xs :=
  Nat.lt_of_le_of_lt (cntRs_ul _ k) (cntR_mem (getD_mem hi (z := [])))
def arity (o : Int) : Int := bif decide (o = 7) then 1 else bif decide (o = 8) then 2 else bif decide (o = 9) then 2 else bif within o 1 6 then 0 else -1
theorem i_arity (o : Int) : impl_ArityOf.c o = rI (arity o) := by simp only [impl_ArityOf.eq, i_in, q0, qb, cI]; rfl
theorem s_arity (o : Int) : spec_ArityOf.c o = rI (arity o) := by
  rw [spec_ArityOf.eq]
  unfold arity
  by_cases h1 : o = 1
  · subst h1; rfl
  by_cases h2 : o = 2
  · subst h2; rfl
  by_cases h3 : o = 3
  · subst h3; rfl
  by_cases h4 : o = 4
  · subst h4; rfl
  by_cases h5 : o = 5
  · subst h5; rfl
  by_cases h6 : o = 6
  · subst h6; rfl
  have h : within o 1 6 = false := by
    rw [Bool.eq_false_iff]; intro hh
    have := within_inv hh
    omega
  simp only [decide_eq_false h1, decide_eq_false h2, decide_eq_false h3, decide_eq_false h4, decide_eq_false h5, decide_eq_false h6, h, cond_false]
  cases decide (o = 7) <;> cases decide (o = 8) <;> cases decide (o = 9) <;> rfl
def amax (o : Int) : Int := bif decide (o = 2) then 5 else bif decide (o = 4) then 3 else bif decide (o = 5) then 3 else bif decide (o = 6) then 10000 else 0
def bmax (o : Int) : Int := bif within o 2 5 then 10000 else 0
def nodeOk (o a b n : Int) : Bool := decide (n = arity o) && (within a 0 (amax o) && within b 0 (bmax o))
theorem within_zero (a : Int) : within a 0 0 = decide (a = 0) := by
  unfold within
  rw [Bool.eq_iff_iff]
  simp only [Bool.and_eq_true, decide_eq_true_eq]
  omega
theorem i_node (o a b : Int) (xs : LL) : impl_isNode.c o a b xs = rB (nodeOk o a b xs.length) := by
  simp only [impl_isNode.eq, i_in, i_arity, q0, qb, qi, cB, ctf]
  unfold nodeOk amax bmax
  cases decide (o = 2) <;> cases decide (o = 4) <;> cases decide (o = 5) <;> cases decide (o = 6) <;> cases within o 2 5 <;> rfl
theorem s_node (o a b : Int) (xs : LL) : spec_l15Node.c o a b xs = rB (nodeOk o a b xs.length) := by
  have e : ∀ x y z : Bool, (z && (x && y)) = (x && (y && z)) := by decide
  simp only [spec_l15Node.eq, s_in, s_time, s_arity, q0, qb, qi, cB, ctf]
  unfold nodeOk amax bmax
  cases decide (o = 2) <;> cases decide (o = 4) <;> cases decide (o = 5) <;> cases decide (o = 6) <;> cases within o 2 5 <;> simp only [cond_true, cond_false, within_zero] <;> exact congrArg rB (e _ _ _).symm
/-- All nodes are right. -/
def validC : Nat → Int → Int → Int → LL → Bool
  | 0, _, _, _, _ => false
  | n + 1, o, a, b, xs => nodeOk o a b xs.length && xs.all fun x => validC n (ui x 0) (ui x 1) (ui x 2) (ul x 3)
theorem s_valid : ∀ (n : Nat) (o a b : Int) (xs : LL), cntRs xs < n → n ≤ 4611686018427387904 → spec_l15Valid.c o a b xs = rB (validC n o a b xs)
  | 0, _, _, _, _, h, _ => by omega
  | n + 1, o, a, b, xs, h, hn => by
    have hl := cntRs_length xs
    rw [spec_l15Valid.eq, s_node]
    simp only [q0, qb, cnot]
    unfold validC
    cases nodeOk o a b xs.length
    · rfl
    rw [cond_true, Bool.true_and]
    refine (all_loop2 (l0 := fun i => spec_l15Valid.l0 i o a b xs) (n := xs.length) (p := fun i => validC n (ui (xs.getD i []) 0) (ui (xs.getD i []) 1) (ui (xs.getD i []) 2) (ul (xs.getD i []) 3)) (b := true) ?_ fun i hi => ?_).trans (by rw [Bool.and_true, range_all xs [] fun x => validC n (ui x 0) (ui x 1) (ui x 2) (ul x 3)])
    · rw [spec_l15Valid.l0_eq, not_lt_nat (Nat.le_refl _)]; rfl
    · have := sub_lt hi 3
      have hs := s_valid n (ui (xs.getD i []) 0) (ui (xs.getD i []) 1) (ui (xs.getD i []) 2) (ul (xs.getD i []) 3) (by omega) (by omega)
      rw [spec_l15Valid.l0_eq, lt_nat hi, in_nat hi, w64_nat (by omega)]
      show ((spec_l15Valid.c (ui (xs.getD i []) 0) (ui (xs.getD i []) 1) (ui (xs.getD i []) 2) (ul (xs.getD i []) 3)).bind _) = _
      rw [hs]
      cases validC n (ui (xs.getD i []) 0) (ui (xs.getD i []) 1) (ui (xs.getD i []) 2) (ul (xs.getD i []) 3) <;> rfl
theorem i_valid : ∀ (n : Nat) (o a b : Int) (xs : LL), cntRs xs < n → n ≤ 4611686018427387904 → impl_areNodes.c o a b xs = rB (validC n o a b xs)
  | 0, _, _, _, _, h, _ => by omega
  | n + 1, o, a, b, xs, h, hn => by
    have hl := cntRs_length xs
    have hf : slices_IndexFunc__impl_areNodes_1.c xs = rI (posL xs fun x => !validC n (ui x 0) (ui x 1) (ui x 2) (ul x 3)) := by
      rw [slices_IndexFunc__impl_areNodes_1.eq]
      refine find_loop (l0 := fun i => slices_IndexFunc__impl_areNodes_1.l0 xs _ i) (n := xs.length) (p := fun i => !validC n (ui (xs.getD i []) 0) (ui (xs.getD i []) 1) (ui (xs.getD i []) 2) (ul (xs.getD i []) 3)) ?_ fun i hi => ?_
      · rw [slices_IndexFunc__impl_areNodes_1.l0_eq, not_lt_nat (Nat.le_refl _)]; rfl
      · have := sub_lt hi 3
        have hs := i_valid n (ui (xs.getD i []) 0) (ui (xs.getD i []) 1) (ui (xs.getD i []) 2) (ul (xs.getD i []) 3) (by omega) (by omega)
        rw [slices_IndexFunc__impl_areNodes_1.l0_eq, lt_nat hi, in_nat hi, w64_nat (by omega), impl_areNodes_1.eq]
        show (((impl_areNodes.c (ui (xs.getD i []) 0) (ui (xs.getD i []) 1) (ui (xs.getD i []) 2) (ul (xs.getD i []) 3)).bind _).bind _) = _
        rw [hs]; rfl
    rw [impl_areNodes.eq, i_node, slices_ContainsFunc__impl_areNodes_1.eq, hf]
    simp only [q0, qb, qi, cB, ctf]
    rw [show validC (n + 1) o a b xs = (nodeOk o a b xs.length && xs.all fun x => validC n (ui x 0) (ui x 1) (ui x 2) (ul x 3)) from rfl]
    congr 2
    show (!decide (pos (fun i => (fun x => !validC n (ui x 0) (ui x 1) (ui x 2) (ul x 3)) (xs.getD i [])) xs.length 0 ≥ 0)) = _
    rw [any_pos fun x => !validC n (ui x 0) (ui x 1) (ui x 2) (ul x 3), List.all_eq_not_any_not]
/-- How many nodes are below. -/
def szC : Nat → LL → Nat
  | 0, _ => 0
  | n + 1, xs => (xs.map fun x => 1 + szC n (ul x 3)).sum
theorem szC_le : ∀ (n : Nat) (xs : LL), szC n xs ≤ cntRs xs
  | 0, xs => Nat.zero_le _
  | n + 1, [] => by simp [szC]
  | n + 1, x :: xs => by
    have h1 := szC_le n (ul x 3)
    have h2 := szC_le (n + 1) xs
    have h3 := cntRs_ul x 3
    simp only [szC, List.map_cons, List.sum_cons, cntRs] at h2 ⊢
    omega
theorem i_size : ∀ (n : Nat) (o a b : Int) (xs : LL), cntRs xs < n → n ≤ 4611686018427387904 → impl_SizeOf.c o a b xs = rI (((1 + szC n xs : Nat) : Int))
  | 0, _, _, _, _, h, _ => by omega
  | n + 1, o, a, b, xs, h, hn => by
    have hl := cntRs_length xs
    have key : ∀ i, i ≤ xs.length → ∀ k : Nat, k + cntRs (xs.drop i) ≤ 4611686018427387904 → impl_SizeOf.l0 (k : Int) xs (ln xs) (i : Int) = rI (((k + ((xs.drop i).map fun x => 1 + szC n (ul x 3)).sum : Nat) : Int)) := by
      refine down xs.length ?_ ?_
      · intro k hk
        rw [impl_SizeOf.l0_eq, not_lt_nat (Nat.le_refl _), List.drop_length]; rfl
      · intro i hi ih k hk
        have := sub_lt hi 3
        have hs := i_size n (ui (xs.getD i []) 0) (ui (xs.getD i []) 1) (ui (xs.getD i []) 2) (ul (xs.getD i []) 3) (by omega) (by omega)
        rw [drop_get hi] at hk ⊢
        have h1 := szC_le n (ul (xs.getD i []) 3)
        have h2 := cntRs_ul (xs.getD i []) 3
        simp only [cntRs] at hk
        rw [impl_SizeOf.l0_eq, lt_nat hi, in_nat hi, w64_nat (by omega)]
        show ((impl_SizeOf.c (ui (xs.getD i []) 0) (ui (xs.getD i []) 1) (ui (xs.getD i []) 2) (ul (xs.getD i []) 3)).bind _) = _
        rw [hs]
        show impl_SizeOf.l0 (w64 ((k : Int) + ((1 + szC n (ul (xs.getD i []) 3) : Nat) : Int))) xs (ln xs) ((i + 1 : Nat) : Int) = _
        have e : w64 ((k : Int) + ((1 + szC n (ul (xs.getD i []) 3) : Nat) : Int)) = ((k + (1 + szC n (ul (xs.getD i []) 3)) : Nat) : Int) := by rw [w64_id (by omega) (by omega)]; omega
        rw [e, ih _ (by omega), List.map_cons, List.sum_cons, Nat.add_assoc]
    rw [impl_SizeOf.eq]
    have := key 0 (Nat.zero_le _) 1 (by rw [List.drop_zero]; omega)
    rw [List.drop_zero] at this
    exact this
theorem s_left : ∀ (n : Nat) (o a b : Int) (xs : LL) (L : Int), cntRs xs < n → n ≤ 4611686018427387904 → 0 ≤ L → L ≤ 4611686018427387904 →
    ∃ m : Int, spec_l15Left.c o a b xs L = rI m ∧ m ≤ L ∧ (((1 + szC n xs : Nat) : Int) ≤ L → m = L - ((1 + szC n xs : Nat) : Int)) ∧ (L < ((1 + szC n xs : Nat) : Int) → m < 0)
  | 0, _, _, _, _, _, h, _, _, _ => by omega
  | n + 1, o, a, b, xs, L, h, hn, h0, hL => by
    have hl := cntRs_length xs
    have key : ∀ i, i ≤ xs.length → ∀ l : Int, l ≤ 4611686018427387904 → ∃ m : Int, spec_l15Left.l0 l (i : Int) o a b xs = rI m ∧ m ≤ l ∧ ((((xs.drop i).map fun x => 1 + szC n (ul x 3)).sum : Int) ≤ l → m = l - (((xs.drop i).map fun x => 1 + szC n (ul x 3)).sum : Int)) ∧ (l < (((xs.drop i).map fun x => 1 + szC n (ul x 3)).sum : Int) → m < 0) := by
      refine down xs.length ?_ ?_
      · intro l hl'
        refine ⟨l, by rw [spec_l15Left.l0_eq, not_lt_nat (Nat.le_refl _)]; rfl, Int.le_refl _, ?_, ?_⟩ <;> rw [List.drop_length] <;> simp
      · intro i hi ih l hl'
        rw [drop_get hi, List.map_cons, List.sum_cons, spec_l15Left.l0_eq, lt_nat hi, cond_true]
        by_cases hl0 : l ≥ 0
        · have := sub_lt hi 3
          obtain ⟨m1, hs, q1, q2, q3⟩ := s_left n (ui (xs.getD i []) 0) (ui (xs.getD i []) 1) (ui (xs.getD i []) 2) (ul (xs.getD i []) 3) l (by omega) (by omega) hl0 hl'
          obtain ⟨m, r1, r2, r3, r4⟩ := ih m1 (by omega)
          refine ⟨m, ?_, by omega, fun hh => ?_, fun hh => ?_⟩
          · rw [decide_eq_true hl0, in_nat hi, w64_nat (by omega)]
            show ((spec_l15Left.c (ui (xs.getD i []) 0) (ui (xs.getD i []) 1) (ui (xs.getD i []) 2) (ul (xs.getD i []) 3) l).bind _) = _
            rw [hs]; exact r1
          · have h1 := q2 (by omega)
            rw [r3 (by omega)]; omega
          · by_cases hc : ((1 + szC n (ul (xs.getD i []) 3) : Nat) : Int) ≤ l
            · have h1 := q2 hc
              exact r4 (by omega)
            · have := q3 (by omega)
              exact r4 (by omega)
        · refine ⟨l, by rw [decide_eq_false hl0]; rfl, Int.le_refl _, fun hh => by omega, fun _ => by omega⟩
    rw [spec_l15Left.eq, w64_id (by omega) (by omega)]
    obtain ⟨m, r1, r2, r3, r4⟩ := key 0 (Nat.zero_le _) (L - 1) (by omega)
    rw [List.drop_zero] at r3 r4
    refine ⟨m, r1, by omega, fun hh => ?_, fun hh => ?_⟩
    · simp only [szC] at hh ⊢
      rw [r3 (by omega)]; omega
    · simp only [szC] at hh
      exact r4 (by omega)
def isCond (o a b : Int) (xs : LL) : Bool := decide (((1 + szC (cntRs xs + 1) xs : Nat) : Int) ≤ 15) && validC (cntRs xs + 1) o a b xs
theorem i_cond (o a b : Int) (xs : LL) (h : cntRs xs ≤ 1099511627776) : impl_IsCond.c o a b xs = rB (isCond o a b xs) := by
  rw [impl_IsCond.eq, i_size (cntRs xs + 1) o a b xs (Nat.lt_succ_self _) (by omega), i_valid (cntRs xs + 1) o a b xs (Nat.lt_succ_self _) (by omega)]
  simp only [q0, qi, qb, cB, ctf]; rfl
theorem s_cond (o a b : Int) (xs : LL) (h : cntRs xs ≤ 1099511627776) : spec_IsCond.c o a b xs = rB (isCond o a b xs) := by
  obtain ⟨m, h1, h2, h3, h4⟩ := s_left (cntRs xs + 1) o a b xs 15 (Nat.lt_succ_self _) (by omega) (by omega) (by omega)
  rw [spec_IsCond.eq, h1, s_valid (cntRs xs + 1) o a b xs (Nat.lt_succ_self _) (by omega)]
  simp only [q0, qi, qb, cB, ctf]
  unfold isCond
  congr 2
  show decide (m ≥ 0) = _
  rw [decide_eq_decide]
  omega
/-- Whether a leaf holds. -/
noncomputable def leaf (l s : LL) (p d g now : Int) (o a b : Int) : Bool := bif decide (o = 1) then true else bif decide (o = 2) then has (rolesL (rolesMk l s p now b)) a else bif decide (o = 3) then decide (posL s (factIs 2 p d now b) ≥ 0) else bif decide (o = 4) then decide (best s 3 d now b ≥ a) else bif decide (o = 5) then decide (best s 4 g now b ≥ a) else (decide (o = 6) && decide (now ≤ a))
noncomputable def evalC (l s : LL) (p d g now : Int) : Nat → Int → Int → Int → LL → Bool
  | 0, _, _, _, _ => false
  | n + 1, o, a, b, xs => bif decide (o = 7) then !evalC l s p d g now n (gi xs 0 0) (gi xs 0 1) (gi xs 0 2) (gl xs 0 3)
    else bif decide (o = 8) then (evalC l s p d g now n (gi xs 0 0) (gi xs 0 1) (gi xs 0 2) (gl xs 0 3) && evalC l s p d g now n (gi xs 1 0) (gi xs 1 1) (gi xs 1 2) (gl xs 1 3))
    else bif decide (o = 9) then (evalC l s p d g now n (gi xs 0 0) (gi xs 0 1) (gi xs 0 2) (gl xs 0 3) || evalC l s p d g now n (gi xs 1 0) (gi xs 1 1) (gi xs 1 2) (gl xs 1 3))
    else leaf l s p d g now o a b
theorem posL_ne (xs : LL) (q : List U → Bool) : (!decide (posL xs q = -1)) = decide (posL xs q ≥ 0) := by
  rcases posL_cases xs q with ⟨h, _⟩ | ⟨j, h, _⟩
  · rw [h]; rfl
  · rw [h, decide_eq_true (show (j : Int) ≥ 0 by omega), decide_eq_false (show ¬ (j : Int) = -1 by omega)]; rfl
theorem s_leaf (l s : LL) (hl : l.length ≤ 4611686018427387904) (hs : s.length ≤ 4611686018427387904) (o a b : Int) (xs : LL) (p d g ac ob now : Int) : spec_LeafHolds.c l s o a b xs p d g ac ob now = rB (leaf l s p d g now o a b) := by
  simp only [spec_LeafHolds.eq, spec_HasRole.eq, s_rolesOf l s hl hs, s_find s hs, s_best s hs, q0, ql, qi, qb, s_has _ (Nat.le_trans (rolesL_len _) (by decide)), cB]
  unfold leaf
  cases decide (o = 6) <;> rfl
theorem s_eval (l s : LL) (hl : l.length ≤ 4611686018427387904) (hs : s.length ≤ 4611686018427387904) (p d g ac ob now : Int) : ∀ (n : Nat) (o a b : Int) (xs : LL), validC n o a b xs = true → spec_l18Eval.c l s o a b xs p d g ac ob now = rB (evalC l s p d g now n o a b xs)
  | 0, o, a, b, xs, h => by cases h
  | n + 1, o, a, b, xs, h => by
    have h : (nodeOk o a b xs.length && xs.all fun x => validC n (ui x 0) (ui x 1) (ui x 2) (ul x 3)) = true := h
    rw [Bool.and_eq_true] at h
    obtain ⟨h1, h2⟩ := h
    have hn : (xs.length : Int) = arity o := by
      unfold nodeOk at h1
      rw [Bool.and_eq_true] at h1
      exact of_decide_eq_true h1.1
    have sub : ∀ i : Nat, i < xs.length → spec_l18Eval.c l s (gi xs i 0) (gi xs i 1) (gi xs i 2) (gl xs i 3) p d g ac ob now = rB (evalC l s p d g now n (gi xs i 0) (gi xs i 1) (gi xs i 2) (gl xs i 3)) := fun i hi => by
      have := List.all_eq_true.1 h2 _ (getD_mem hi (z := []))
      exact s_eval l s hl hs p d g ac ob now n _ _ _ _ this
    rw [spec_l18Eval.eq]
    by_cases h7 : o = 7
    · subst h7
      have hl1 : xs.length = 1 := by have : arity 7 = 1 := rfl; omega
      have s0 := sub 0 (by omega)
      rw [hl1]
      show ((spec_l18Eval.c l s (gi xs 0 0) (gi xs 0 1) (gi xs 0 2) (gl xs 0 3) p d g ac ob now).bind _) = _
      rw [show spec_l18Eval.c l s (gi xs 0 0) (gi xs 0 1) (gi xs 0 2) (gl xs 0 3) p d g ac ob now = _ from s0]; rfl
    by_cases h8 : o = 8
    · subst h8
      have hl1 : xs.length = 2 := by have : arity 8 = 2 := rfl; omega
      have s0 := sub 0 (by omega)
      have s1 := sub 1 (by omega)
      rw [hl1]
      show ((spec_l18Eval.c l s (gi xs 0 0) (gi xs 0 1) (gi xs 0 2) (gl xs 0 3) p d g ac ob now).bind fun r1 => bif r1.b 0 then ((spec_l18Eval.c l s (gi xs 1 0) (gi xs 1 1) (gi xs 1 2) (gl xs 1 3) p d g ac ob now).bind _) else _) = _
      rw [show spec_l18Eval.c l s (gi xs 0 0) (gi xs 0 1) (gi xs 0 2) (gl xs 0 3) p d g ac ob now = _ from s0, show spec_l18Eval.c l s (gi xs 1 0) (gi xs 1 1) (gi xs 1 2) (gl xs 1 3) p d g ac ob now = _ from s1]
      simp only [q0, qb, cB, ctf]; rfl
    by_cases h9 : o = 9
    · subst h9
      have hl1 : xs.length = 2 := by have : arity 9 = 2 := rfl; omega
      have s0 := sub 0 (by omega)
      have s1 := sub 1 (by omega)
      rw [hl1]
      show ((spec_l18Eval.c l s (gi xs 0 0) (gi xs 0 1) (gi xs 0 2) (gl xs 0 3) p d g ac ob now).bind fun r1 => bif r1.b 0 then rB true else ((spec_l18Eval.c l s (gi xs 1 0) (gi xs 1 1) (gi xs 1 2) (gl xs 1 3) p d g ac ob now).bind _)) = _
      rw [show spec_l18Eval.c l s (gi xs 0 0) (gi xs 0 1) (gi xs 0 2) (gl xs 0 3) p d g ac ob now = _ from s0, show spec_l18Eval.c l s (gi xs 1 0) (gi xs 1 1) (gi xs 1 2) (gl xs 1 3) p d g ac ob now = _ from s1]
      simp only [q0, qb, cB, cft]; rfl
    rw [decide_eq_false h7, decide_eq_false h8, decide_eq_false h9, s_leaf l s hl hs]
    show rB _ = rB (bif decide (o = 7) then _ else bif decide (o = 8) then _ else bif decide (o = 9) then _ else _)
    rw [decide_eq_false h7, decide_eq_false h8, decide_eq_false h9]; rfl
end Go.Proofs.YteahcmobjegpnaaGreat.Eng
