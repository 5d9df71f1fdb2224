/- UseEmergency: the reference and the program give the same. -/
import Derived.Test.YteahcmobjegpnaaPC1
namespace Go.Proofs.Yteahcmobjegpnaa.Eng
open Go.RowKit
set_option linter.unusedVariables false
set_option linter.unusedSimpArgs false
set_option linter.unusedSectionVars false
set_option maxRecDepth 100000
variable [Sm]
theorem same_UseEmergency (p0_0 : List (List U)) (p0_1 : List (List U)) (p0_2 : Int) (p1 : List (List U)) (p2 : Int) (p3 : Int) (p4 : Int) (hp0_0 : WR tabs.ct 3 p0_0) (bp0_0 : cntRs p0_0 ≤ 1048576) (hp0_1 : WR tabs.ct 3 p0_1) (bp0_1 : cntRs p0_1 ≤ 1048576) (hp1 : WR tabs.ct 46 p1) (bp1 : cntRs p1 ≤ 1048576) (hp2 : -9223372036854775808 ≤ p2 ∧ p2 ≤ 9223372036854775807) (hp3 : -9223372036854775808 ≤ p3 ∧ p3 ≤ 9223372036854775807) (hp4 : -9223372036854775808 ≤ p4 ∧ p4 ≤ 9223372036854775807) : ∃ (r0 : List (List U)) (r1 : Bool), spec_UseEmergency.c p0_0 p0_1 p0_2 p1 p2 p3 p4 = some ⟨[[.lst r0], [.bool r1]], []⟩ ∧ impl_UseEmergency.c p0_0 p0_1 p0_2 p1 p2 p3 p4 = some ⟨[[.lst r0], [.bool r1]], []⟩ ∧ WR tabs.ct 46 r0 ∧ cntRs r0 ≤ 1099511627776 := by
  have l0 := cntRs_length p0_0
  have l1 := cntRs_length p0_1
  have l2 := cntRs_length p1
  rw [spec_UseEmergency.eq, impl_UseEmergency.eq, s_copy _ hp1 bp1, i_copy _ hp1 bp1, s_are _ _ _ _ hp1 bp1 (by omega) (by omega), i_are _ _ _ _ hp1 bp1 (by omega) (by omega), are_eq, s_in, i_in, s_within, i_within, s_has _ (by omega), i_has _ (by omega)]
  simp only [q0, qb, ql]
  cases areI p0_0 p0_1 p0_2 p1
  · exact ⟨p1, false, rfl, rfl, hp1, by omega⟩
  cases hw : within p2 1 (ln p1)
  · exact ⟨p1, false, rfl, rfl, hp1, by omega⟩
  obtain ⟨w1, w2⟩ := within_inv hw
  have w2 : p2 ≤ (p1.length : Int) := w2
  obtain ⟨i, rfl⟩ : ∃ i : Nat, p2 = ((i + 1 : Nat) : Int) := ⟨(p2 - 1).toNat, by omega⟩
  have hi : i < p1.length := by omega
  have e1 : w64 (((i + 1 : Nat) : Int) - 1) = (i : Int) := by rw [w64_id (by omega) (by omega)]; omega
  have hwt := hp1.2 _ (getD_mem hi (z := []))
  obtain ⟨a, b, c, d, u, e, hr, hu⟩ := row46 hwt
  have hul := used_le hi hr
  have hcu := cntR_mem (getD_mem hi (z := []))
  rw [hr] at hcu
  simp only [cntR, cntU] at hcu
  have hgl : gl p1 (i : Int) 4 = u := by unfold gl; rw [Int.toNat_natCast, hr]; rfl
  simp only [e1, in_nat hi, gt_, Bool.not_true, cond_false]
  rw [hgl, grd_true (room_true (n := u.length + [_].length) (by simp; omega) (by simp; omega))]
  cases gb p1 (i : Int) 5
  · cases isWithin (gi p1 (i : Int) 2) (gi p1 (i : Int) 3) p4
    · exact ⟨p1, false, rfl, rfl, hp1, by omega⟩
    cases has p0_1 p3
    · exact ⟨p1, false, rfl, rfl, hp1, by omega⟩
    refine ⟨setEl p1 i 4 [.lst (u ++ [[U.int p3]])], true, ?_, ?_, ⟨by rw [setEl_length]; exact hp1.1, fun x hx => ?_⟩, ?_⟩
    · show grd (decide True) _ = _
      rw [decide_eq_true trivial]; rfl
    · show grd (decide True) _ = _
      rw [decide_eq_true trivial]; rfl
    · rw [setEl_eq] at hx
      rcases List.mem_or_eq_of_mem_set hx with hx | rfl
      · exact hp1.2 x hx
      · rw [hr] at hwt ⊢
        refine hwt.set (ct := .slc 3) rfl ?_
        exact (WR.app hu (WR.one (e := 3) (wcons (wint hp3) wnil)) (by simp; omega)).toWT
    · rw [setEl_eq, hr]
      have hput := cntRs_put (r := splice [U.int a, U.int b, U.int c, U.int d, U.lst u, U.bool e] 4 [U.lst (u ++ [[U.int p3]])]) hi
      have h1 : cntR (splice [U.int a, U.int b, U.int c, U.int d, U.lst u, U.bool e] 4 [U.lst (u ++ [[U.int p3]])]) = cntRs u + 1 := by
        show cntR [U.int a, U.int b, U.int c, U.int d, U.lst (u ++ [[U.int p3]]), U.bool e] = _
        simp [cntR, cntU, cntRs_app, cntRs]
      omega
  · exact ⟨p1, false, rfl, rfl, hp1, by omega⟩
end Go.Proofs.Yteahcmobjegpnaa.Eng
