/- SettleEmergency: the reference and the program give the same. -/
import Derived.Test.YtalgdejblgkjjaaPEmerg
namespace Go.Proofs.Ytalgdejblgkjjaa.Eng
open Go.RowKit
set_option linter.unusedVariables false
set_option linter.unusedSimpArgs false
set_option maxRecDepth 100000
theorem same_SettleEmergency (p0_0 : List (List U)) (p0_1 : List (List U)) (p0_2 : Int) (p1 : List (List U)) (p2 : Int) (p3 : Int) (p4 : Int) (hp0_0 : WR tabs.ct 3 p0_0) (bp0_0 : cntRs p0_0 ≤ 1048576) (hp0_1 : WR tabs.ct 3 p0_1) (bp0_1 : cntRs p0_1 ≤ 1048576) (hp1 : WR tabs.ct 67 p1) (bp1 : cntRs p1 ≤ 1048576) (hp2 : -9223372036854775808 ≤ p2 ∧ p2 ≤ 9223372036854775807) (hp3 : -9223372036854775808 ≤ p3 ∧ p3 ≤ 9223372036854775807) (hp4 : -9223372036854775808 ≤ p4 ∧ p4 ≤ 9223372036854775807) : ∃ (r0 : List (List U)) (r1 : Bool), spec_SettleEmergency.c dn p0_0 p0_1 p0_2 p1 p2 p3 p4 = some ⟨[[.lst r0], [.bool r1]], []⟩ ∧ impl_SettleEmergency.c dn p0_0 p0_1 p0_2 p1 p2 p3 p4 = some ⟨[[.lst r0], [.bool r1]], []⟩ ∧ WR tabs.ct 67 r0 ∧ cntRs r0 ≤ 1099511627776 := by
  have l0 := cntRs_length p0_0
  have l1 := cntRs_length p0_1
  have l2 := cntRs_length p1
  rw [spec_SettleEmergency.eq fix, impl_SettleEmergency.eq fix, s_copy _ hp1 bp1, i_copy _ hp1 bp1, s_are _ _ _ _ hp1 bp1 (by omega) (by omega), i_are _ _ _ _ hp1 bp1 (by omega) (by omega), are_eq, s_in, i_in, s_kind, i_kind, s_time, i_time]
  simp only [Option.bind_some, Ret.u_mk, List.getD_cons_zero, List.getD_cons_succ, U.toBool_bool, U.toLst_lst]
  cases areI p0_0 p0_1 p0_2 p1
  · exact ⟨p1, false, rfl, rfl, hp1, by omega⟩
  cases hw : within p2 1 (p1.length : Int)
  · exact ⟨p1, false, rfl, rfl, hp1, by omega⟩
  obtain ⟨w1, w2⟩ := within_inv hw
  obtain ⟨i, rfl⟩ : ∃ i : Nat, p2 = ((i + 1 : Nat) : Int) := ⟨(p2 - 1).toNat, by omega⟩
  have hi : i < p1.length := by omega
  have e1 : IntKind.i64.wrap (((i + 1 : Nat) : Int) - 1) = (i : Int) := by rw [wrap_id (by omega) (by omega)]; omega
  rw [e1, inRange_nat, decide_eq_true hi, Int.toNat_natCast]
  have hw := hp1.2 _ (getD_mem hi (z := []))
  obtain ⟨a, b, c, d, u, e, hr, hu⟩ := row67 hw
  rw [hr]
  simp only [List.getD_cons_zero, List.getD_cons_succ, U.toInt_int, U.toBool_bool, Bool.not_true, cond_true, cond_false]
  cases e
  · cases hasKind p3 1
    · exact ⟨p1, false, rfl, rfl, hp1, by omega⟩
    cases decide (p3 = b)
    · cases within p4 0 10000
      · exact ⟨p1, false, rfl, rfl, hp1, by omega⟩
      cases decide (p4 ≤ d)
      · refine ⟨setEl p1 i 5 [.bool true], true, rfl, rfl, ⟨by rw [setEl_length]; exact hp1.1, fun x hx => ?_⟩, ?_⟩
        · rcases List.mem_or_eq_of_mem_set hx with hx | rfl
          · exact hp1.2 x hx
          · rw [hr] at hw ⊢
            exact hw.set (ct := .bool) rfl (.bool true)
        · rw [setEl_eq, hr]
          have : cntRs (p1.set i (splice [U.int a, U.int b, U.int c, U.int d, U.lst u, U.bool false] 5 [U.bool true])) = cntRs p1 := cntRs_set hi (by rw [hr]; rfl)
          omega
      · exact ⟨p1, false, rfl, rfl, hp1, by omega⟩
    · exact ⟨p1, false, rfl, rfl, hp1, by omega⟩
  · exact ⟨p1, false, rfl, rfl, hp1, by omega⟩
end Go.Proofs.Ytalgdejblgkjjaa.Eng
