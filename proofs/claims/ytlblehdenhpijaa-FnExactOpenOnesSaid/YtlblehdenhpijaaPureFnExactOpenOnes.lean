/- OpenOnes answers as the reference answers: the pure statement. -/
import Derived.Test.YtlblehdenhpijaaPSession
namespace Go.Proofs.Ytlblehdenhpijaa.Eng
open Go.RowKit
set_option maxRecDepth 100000
set_option linter.unusedSimpArgs false
theorem openOnes (xs : List (List U)) (hw : WR tabs.ct 79 xs) (hl : xs.length ≤ 1048576) : ∃ ys : List (List U), spec_OpenOnes.c dn xs = some ⟨[[.lst ys]], []⟩ ∧ impl_OpenOnes.c dn xs = some ⟨[[.lst ys]], []⟩ ∧ ys.length ≤ xs.length ∧ ∀ y ∈ ys, ∃ n, y = [.int n] := by
  rw [spec_OpenOnes.eq fix, impl_OpenOnes.eq fix]
  have key : ∀ i, i ≤ xs.length → ∀ acc : List (List U), acc.length ≤ i → (∀ y ∈ acc, ∃ n, y = [.int n]) → ∃ ys : List (List U), spec_OpenOnes.l0 dn iterL xs (i : Int) acc = some ⟨[[.lst ys]], []⟩ ∧ impl_OpenOnes.l0 dn iterL xs (xs.length : Int) (i : Int) acc = some ⟨[[.lst ys]], []⟩ ∧ ys.length ≤ xs.length ∧ ∀ y ∈ ys, ∃ n, y = [.int n] := by
    refine down xs.length ?_ ?_
    · intro acc ha hn
      refine ⟨acc, ?_, ?_, ha, hn⟩
      · rw [spec_OpenOnes.l0_eq fix, not_lt_nat (Nat.le_refl _)]; rfl
      · rw [impl_OpenOnes.l0_eq fix, not_lt_nat (Nat.le_refl _)]; rfl
    · intro i hi h acc ha hn
      obtain ⟨c0, c1, c2, c3, c4, c5, c6, c7, c8, c9, hr⟩ := row79 (hw.2 _ (getD_mem hi (z := [])))
      rw [spec_OpenOnes.l0_eq fix, impl_OpenOnes.l0_eq fix, lt_nat hi, inRange_nat, decide_eq_true hi, Int.toNat_natCast, hr, wrap_nat (by omega), room_true (by simp; omega) (by simp; omega)]
      cases c9 with
      | false => exact h acc (by omega) hn
      | true => exact h (acc ++ [[.int c0]]) (by simp; omega) (fun y hy => by
          rcases List.mem_append.1 hy with hy | hy
          · exact hn y hy
          · exact ⟨c0, List.mem_singleton.1 hy⟩)
  exact key 0 (Nat.zero_le _) [] (by simp) (fun y hy => by simp at hy)
theorem FnExactOpenOnes_pure (u0 : List U) (W0 : WTs tabs.ct (tabs.ct 43) u0) : dn 9 [argSV tabs 43 u0] [] = some ⟨[[.bool true]], []⟩ := by
  have W0' : WTs tabs.ct [.slc 79] u0 := W0
  obtain ⟨v, _, rfl, k0, hn⟩ := W0'.cons
  obtain rfl := hn.nil
  obtain ⟨xs, rfl, hw⟩ := k0.slc_inv
  show laws_FnExactOpenOnes.c dn xs = _
  rw [laws_FnExactOpenOnes.eq fix, sz_SessionS xs hw]
  by_cases hl : xs.length ≤ 1048576
  · have hto := to_SessionS xs hw hl
    have he := eq_SessionS xs hl
    obtain ⟨ys, h1, h2, h3, h4⟩ := openOnes xs hw hl
    have he' := eq_IntS ys (by omega)
    obtain ⟨m1, m2, m3⟩ := mark_SessionS xs hw hl
    obtain ⟨n1, n2, n3⟩ := mark_IntS ys h4 (by omega)
    have n4 := held_IntS ys (by omega)
    rw [if_pos hl]
    simp [-List.getD_eq_getElem?_getD, List.getD_cons_zero, List.getD_cons_succ, hto, h1, h2, he, he', m1, n1, n4, decide_eq_false (by omega : ¬ (1048576 - (xs.length : Int) < 0)), decide_eq_false (by omega : ¬ ((markL mk74 xs 1).2 < 0)), decide_eq_false (by omega : ¬ ((markL mk3 ys 1).2 < 0))]
  · rw [if_neg hl]; rfl
end Go.Proofs.Ytlblehdenhpijaa.Eng
