/- EventName answers as the reference answers: the pure statement. -/
import Derived.Test.YtlblehdenhpijaaPL
import Derived.Test.YtlblehdenhpijaaBase
import Derived.Test.YtlblehdenhpijaaF0
namespace Go.Proofs.Ytlblehdenhpijaa.Eng
open Go.RowKit
set_option maxRecDepth 100000
theorem FnExactEventName_pure (u0 : List U) (W0 : WTs tabs.ct (tabs.ct 3) u0) : dn 3 [argSV tabs 3 u0] [] = some ⟨[[.bool true]], []⟩ := by
  show laws_FnExactEventName.c dn ((u0.getD 0 U0).toInt) = _
  generalize (u0.getD 0 U0).toInt = a
  rw [laws_FnExactEventName.eq fix, spec_EventName.eq fix, impl_EventName.eq fix, spec_l1In.eq fix, impl_InRange.eq fix]
  by_cases h1 : 1 ≤ a
  · by_cases h2 : a ≤ 16
    · obtain ⟨i, rfl⟩ : ∃ i : Nat, a = i := ⟨a.toNat, by omega⟩
      have hi : i < 17 := by omega
      have h0 : 0 < i := by omega
      match i, hi, h0 with
      | 1, _, _ | 2, _, _ | 3, _, _ | 4, _, _ | 5, _, _ | 6, _, _ | 7, _, _ | 8, _, _ | 9, _, _ | 10, _, _ | 11, _, _ | 12, _, _ | 13, _, _ | 14, _, _ | 15, _, _ | 16, _, _ => rfl
    · simp [h1, h2]
  · simp [h1]
end Go.Proofs.Ytlblehdenhpijaa.Eng
