/- UsesKept: the reference and the program give the same. -/
import Derived.Test.YtpkhifegfpehpaaGreatPW3
namespace Go.Proofs.YtpkhifegfpehpaaGreat.Eng
open Go.RowKit
set_option linter.unusedVariables false
set_option linter.unusedSimpArgs false
set_option maxRecDepth 100000
theorem same_UsesKept (p0_0 : Int) (p0_1 : List (List U)) (p0_2 : List (List U)) (p0_3 : List (List U)) (p0_4 : List (List U)) (p0_5 : Int) (p0_6 : List (List U)) (p0_7 : List (List U)) (p0_8 : List (List U)) (p0_9 : List (List U)) (p0_10 : Int) (p0_11 : List (List U)) (p0_12 : List (List U)) (p0_13 : List (List U)) (p0_14 : List (List U)) (p0_15 : List (List U)) (p0_16 : List (List U)) (p0_17 : Int) (p0_18 : List (List U)) (p0_19 : List (List U)) (hp0_1 : WR tabs.ct 220 p0_1) (bp0_1 : cntRs p0_1 ≤ 1048576) (hp0_2 : WR tabs.ct 135 p0_2) (bp0_2 : cntRs p0_2 ≤ 1048576) (hp0_3 : WR tabs.ct 235 p0_3) (bp0_3 : cntRs p0_3 ≤ 1048576) (hp0_4 : WR tabs.ct 209 p0_4) (bp0_4 : cntRs p0_4 ≤ 1048576) (hp0_6 : WR tabs.ct 69 p0_6) (bp0_6 : cntRs p0_6 ≤ 1048576) (hp0_7 : WR tabs.ct 138 p0_7) (bp0_7 : cntRs p0_7 ≤ 1048576) (hp0_8 : WR tabs.ct 4 p0_8) (bp0_8 : cntRs p0_8 ≤ 1048576) (hp0_9 : WR tabs.ct 109 p0_9) (bp0_9 : cntRs p0_9 ≤ 1048576) (hp0_11 : WR tabs.ct 143 p0_11) (bp0_11 : cntRs p0_11 ≤ 1048576) (hp0_12 : WR tabs.ct 183 p0_12) (bp0_12 : cntRs p0_12 ≤ 1048576) (hp0_13 : WR tabs.ct 145 p0_13) (bp0_13 : cntRs p0_13 ≤ 1048576) (hp0_14 : WR tabs.ct 124 p0_14) (bp0_14 : cntRs p0_14 ≤ 1048576) (hp0_15 : WR tabs.ct 3 p0_15) (bp0_15 : cntRs p0_15 ≤ 1048576) (hp0_16 : WR tabs.ct 3 p0_16) (bp0_16 : cntRs p0_16 ≤ 1048576) (hp0_18 : WR tabs.ct 119 p0_18) (bp0_18 : cntRs p0_18 ≤ 1048576) (hp0_19 : WR tabs.ct 149 p0_19) (bp0_19 : cntRs p0_19 ≤ 1048576) : ∃ (r0 : Bool), spec_UsesKept.c dn p0_0 p0_1 p0_2 p0_3 p0_4 p0_5 p0_6 p0_7 p0_8 p0_9 p0_10 p0_11 p0_12 p0_13 p0_14 p0_15 p0_16 p0_17 p0_18 p0_19 = some ⟨[[.bool r0]], []⟩ ∧ impl_UsesKept.c dn p0_0 p0_1 p0_2 p0_3 p0_4 p0_5 p0_6 p0_7 p0_8 p0_9 p0_10 p0_11 p0_12 p0_13 p0_14 p0_15 p0_16 p0_17 p0_18 p0_19 = some ⟨[[.bool r0]], []⟩ := by
  have l13 := cntRs_length p0_13
  have l14 := cntRs_length p0_14
  have hfl := flat_le p0_9
  have hel : (entries p0_9 1).length ≤ 1048576 := by unfold entries; have := List.length_filter_le (fun e => decide (v0 e = 1)) (flat p0_9); omega
  obtain ⟨m, hm1, hm2⟩ := s_answers p0_0 p0_1 p0_2 p0_3 p0_4 p0_5 p0_6 p0_7 p0_8 p0_9 p0_10 p0_11 p0_12 p0_13 p0_14 p0_15 p0_16 p0_17 p0_18 p0_19 1 hp0_9 bp0_9
  refine ⟨decide ((p0_14.length : Int) = m) && (separate p0_13 p0_14 && p0_14.all fun u => (entries p0_9 1).any (answers u)), ?_, ?_⟩
  · rw [spec_UsesKept.eq fix]
    refine (all_loop3 (l0 := fun i => spec_UsesKept.l0 dn iterJ i p0_0 p0_1 p0_2 p0_3 p0_4 p0_5 p0_6 p0_7 p0_8 p0_9 p0_10 p0_11 p0_12 p0_13 p0_14 p0_15 p0_16 p0_17 p0_18 p0_19) (n := p0_14.length) (p := fun i => (entries p0_9 1).any (answers (p0_14.getD i []))) (R := rB (decide ((p0_14.length : Int) = m) && separate p0_13 p0_14)) (F := rB false) ?_ fun i hi => ?_).trans ?_
    · rw [spec_UsesKept.l0_eq fix, not_lt_nat (Nat.le_refl _), hm1, s_separate _ _ (by omega) (by omega)]
      show (bif decide ((p0_14.length : Int) = m) then _ else _) = _
      cases decide ((p0_14.length : Int) = m) <;> rfl
    · rw [spec_UsesKept.l0_eq fix, lt_nat hi, inRange_nat, decide_eq_true hi, wrap_nat (n := i) (by omega), Int.toNat_natCast, s_entry _ _ _ _ _ _ _ _ _ _ _ _ _ _ _ _ _ _ _ _ _ hp0_9 bp0_9]
      cases (entries p0_9 1).any (answers (p0_14.getD i [])) <;> rfl
    · rw [range_all p0_14 [] fun u => (entries p0_9 1).any (answers u)]
      cases decide ((p0_14.length : Int) = m) <;> cases separate p0_13 p0_14 <;> cases p0_14.all (fun u => (entries p0_9 1).any (answers u)) <;> rfl
  · rw [impl_UsesKept.eq fix, i_entries _ _ _ _ _ _ _ _ _ _ _ _ _ _ _ _ _ _ _ _ _ hp0_9 bp0_9, hm2, i_separate _ _ (by omega) (by omega)]
    simp only [Option.bind_some, Ret.u_mk, List.getD_cons_zero, U.toBool_bool, U.toLst_lst, U.toInt_int]
    rw [i_uses _ _ (by omega) hel]
    rw [List.all_eq_not_any_not]
    cases decide ((p0_14.length : Int) = m) <;> cases separate p0_13 p0_14 <;> cases p0_14.any (fun u => !(entries p0_9 1).any (answers u)) <;> rfl
end Go.Proofs.YtpkhifegfpehpaaGreat.Eng
