/- CloseSession answers as the reference answers: the pure statement. -/
import Derived.Test.YtlblehdenhpijaaPSession
namespace Go.Proofs.Ytlblehdenhpijaa.Eng
open Go.RowKit
set_option maxRecDepth 100000
theorem FnExactCloseSession_pure (u0 : List U) (W0 : WTs tabs.ct (tabs.ct 43) u0) (u1 : List U) (W1 : WTs tabs.ct (tabs.ct 3) u1) : dn 12 [argSV tabs 43 u0, argSV tabs 3 u1] [] = some ⟨[[.bool true]], []⟩ := by
  have W0' : WTs tabs.ct [.slc 79] u0 := W0
  obtain ⟨v, _, rfl, k0, hn⟩ := W0'.cons
  obtain rfl := hn.nil
  obtain ⟨xs, rfl, hw⟩ := k0.slc_inv
  have W1' : WTs tabs.ct [.int .i64] u1 := W1
  obtain ⟨v, _, rfl, k1, hn⟩ := W1'.cons
  obtain rfl := hn.nil
  obtain ⟨id, rfl, hid⟩ := k1.int_inv
  have hid := wf64 hid
  show laws_FnExactCloseSession.c dn xs id = _
  rw [laws_FnExactCloseSession.eq fix, sz_SessionS xs hw]
  by_cases hl : xs.length ≤ 1048576
  · have hto := to_SessionS xs hw hl
    have he : ∀ ys : List (List U), ys.length = xs.length → laws_eqSessionS.c dn ys ys = some ⟨[[.bool true]], []⟩ := fun ys hy => eq_SessionS ys (by omega)
    obtain ⟨ys, b, h1, h2, h3, h4⟩ : ∃ ys b, spec_CloseSession.c dn xs id = some ⟨[[.lst ys], [.bool b]], []⟩ ∧ impl_CloseSession.c dn xs id = some ⟨[[.lst ys], [.bool b]], []⟩ ∧ ys.length = xs.length ∧ WR tabs.ct 79 ys := by
      rw [spec_CloseSession.eq fix, impl_CloseSession.eq fix, spec_l1In.eq fix, impl_InRange.eq fix, room_true (by omega) (by omega)]
      by_cases c1 : 1 ≤ id
      · by_cases c2 : id ≤ (xs.length : Int)
        · obtain ⟨i, rfl⟩ : ∃ i : Nat, id = ((i + 1 : Nat) : Int) := ⟨(id - 1).toNat, by omega⟩
          have hi : i < xs.length := by omega
          obtain ⟨c0, c1', c2', c3, c4, c5, c6, c7, c8, c9, hr⟩ := row79 (hw.2 _ (getD_mem hi (z := [])))
          have e1 : IntKind.i64.wrap (((i + 1 : Nat) : Int) - 1) = (i : Int) := by rw [wrap_id (by omega) (by omega)]; omega
          rw [decide_eq_true (by omega : ((i + 1 : Nat) : Int) ≥ 1), decide_eq_true c2, e1, inRange_nat, decide_eq_true hi]
          cases c9 with
          | false => exact ⟨xs, false, by simp only [Int.toNat_natCast, hr]; rfl, by simp only [Int.toNat_natCast, hr]; rfl, rfl, hw⟩
          | true =>
            refine ⟨setEl xs i 9 [.bool false], true, by simp only [Int.toNat_natCast, hr]; rfl, by simp only [Int.toNat_natCast, hr]; rfl, setEl_length .., ?_, fun x hx => ?_⟩
            · rw [setEl_length]; exact hw.1
            · rcases List.mem_or_eq_of_mem_set hx with hx | rfl
              · exact hw.2 x hx
              · have := hw.2 _ (getD_mem hi (z := []))
                rw [hr] at this ⊢
                refine ⟨this.1, fun j ct u hct hu => ?_⟩
                by_cases hj : j = 9
                · subst hj
                  have hct' : some CT.bool = some ct := hct
                  cases hct'
                  have hu' : some (U.bool false) = some u := hu
                  cases hu'
                  exact .bool false
                · refine this.2 j ct u hct ?_
                  rw [← hu]
                  show _ = (List.set _ 9 _)[j]?
                  rw [List.getElem?_set_ne (by omega)]
        · refine ⟨xs, false, ?_, ?_, rfl, hw⟩ <;> simp [c1, c2]
      · refine ⟨xs, false, ?_, ?_, rfl, hw⟩ <;> simp [c1]
    obtain ⟨m1, m2, m3⟩ := mark_SessionS xs hw hl
    obtain ⟨n1, n2, n3⟩ := mark_SessionS ys h4 (by omega)
    have n4 := held_SessionS ys (by omega)
    rw [if_pos hl]
    simp [-List.getD_eq_getElem?_getD, List.getD_cons_zero, List.getD_cons_succ, hto, h1, h2, he ys h3, he xs rfl, m1, n1, n4, decide_eq_false (by omega : ¬ (1048576 - (xs.length : Int) < 0)), decide_eq_false (by omega : ¬ ((markL mk74 xs 1).2 < 0)), decide_eq_false (by omega : ¬ ((markL mk74 ys 1).2 < 0))]
  · rw [if_neg hl]; rfl
end Go.Proofs.Ytlblehdenhpijaa.Eng
