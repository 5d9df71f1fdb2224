/- What is drawn: a cursor, bytes, numbers below a bound. -/
import Derived.Test.YtlkcpabdpmenpaaPTr
namespace Go.Proofs.Ytlkcpabdpmenpaa.Eng
open Go.RowKit
set_option linter.unusedVariables false
set_option linter.unusedSimpArgs false
set_option linter.unusedSectionVars false
set_option maxRecDepth 100000
variable [Sm]
/-- A cursor that is in order. -/
def CurOk (c : LL) : Prop := ∃ (b : LL) (i h : Int), c = [[U.lst b, U.int i, U.int h]] ∧ 0 ≤ i ∧ b.length ≤ 1048576
theorem and255 (x : Int) : 0 ≤ andI .i64 x 255 ∧ andI .i64 x 255 ≤ 255 := by
  have h : (BitVec.ofInt 64 x &&& BitVec.ofInt 64 255).toNat ≤ 255 := by
    rw [BitVec.toNat_and]
    exact Nat.le_trans Nat.and_le_right (by decide)
  have e : andI .i64 x 255 = (((BitVec.ofInt 64 x &&& BitVec.ofInt 64 255).toNat : Nat) : Int) := by
    show IntKind.i64.wrap (((BitVec.ofInt 64 x &&& BitVec.ofInt 64 255).toNat : Nat) : Int) = _
    exact wrap_id (by omega) (by omega)
  rw [e]
  omega
theorem new_loop (s : LL) (hs : s.length ≤ 1048576) : ∀ (k i : Nat) (h : Int), i + k = s.length → ∃ h', spec_l1New.l0 s h (i : Int) = rL [[U.lst s, U.int 0, U.int h']]
  | 0, i, h, hk => ⟨h, by rw [spec_l1New.l0_eq, not_lt_nat (by omega)]; rfl⟩
  | k + 1, i, h, hk => by
    have hi : i < s.length := by omega
    rw [spec_l1New.l0_eq, lt_nat hi]
    cases decide ((i : Int) < 4000)
    · exact ⟨h, rfl⟩
    · rw [in_nat hi, w64_nat (by omega)]
      exact new_loop s hs k (i + 1) _ (by omega)
theorem new_ok (s : LL) (hs : s.length ≤ 1048576) : ∃ c, spec_l1New.c s = rL c ∧ CurOk c := by
  rw [spec_l1New.eq]
  obtain ⟨h', e⟩ := new_loop s hs s.length 0 (w64 (193017 + ln s)) (by omega)
  exact ⟨_, e, s, 0, h', rfl, by omega, hs⟩
theorem byte_ok {c : LL} (hc : CurOk c) : ∃ v c', spec_l1Byte.c c = some ⟨[[.int v]], [c']⟩ ∧ CurOk c' ∧ 0 ≤ v ∧ v ≤ 255 := by
  obtain ⟨b, i, h, rfl, hi, hb⟩ := hc
  obtain ⟨H, hH⟩ : ∃ H, H = w64 (w64 (h * 6364136223846793005) + 1442695040888963407) := ⟨_, rfl⟩
  have e : spec_l1Byte.c [[U.lst b, U.int i, U.int h]] = bif decide (i < ln b) then grd (inRange i b.length) (some ⟨[[.int (andI .i64 (w64 (andI .i64 (xorI .i64 (shrI .i64 H 33) (shrI .i64 H 47)) 255 + w64 (gi b i 0))) 255)]], [[[U.lst b, U.int (w64 (i + 1)), U.int H]]]⟩) else some ⟨[[.int (andI .i64 (xorI .i64 (shrI .i64 H 33) (shrI .i64 H 47)) 255)]], [[[U.lst b, U.int i, U.int H]]]⟩ := by
    rw [hH]
    exact spec_l1Byte.eq
  rw [e]
  cases hd : decide (i < ln b)
  · exact ⟨_, _, rfl, ⟨b, i, H, rfl, hi, hb⟩, and255 _⟩
  · have hd : i < (b.length : Int) := of_decide_eq_true hd
    rw [inRange_true hi hd]
    exact ⟨_, _, rfl, ⟨b, w64 (i + 1), H, rfl, by rw [w64_id (by omega) (by omega)]; omega, hb⟩, and255 _⟩
theorem below_ok {c : LL} (hc : CurOk c) (n : Int) : ∃ v c', spec_l1Below.c n c = some ⟨[[.int v]], [c']⟩ ∧ CurOk c' ∧ 0 ≤ v ∧ (0 < n → v < n) ∧ (n ≤ 0 → v = 0) := by
  rw [spec_l1Below.eq]
  cases h0 : decide (n ≤ 0)
  · have h0 : ¬ n ≤ 0 := of_decide_eq_false h0
    have hz : decide (n = 0) = false := decide_eq_false (by omega)
    have hm : ∀ v : Int, 0 ≤ v → 0 ≤ v.tmod n ∧ v.tmod n < n := fun v hv => ⟨Int.tmod_nonneg _ hv, Int.tmod_lt_of_pos _ (by omega)⟩
    cases decide (n ≤ 256)
    · obtain ⟨v1, c1, e1, k1, l1, m1⟩ := byte_ok hc
      obtain ⟨v2, c2, e2, k2, l2, m2⟩ := byte_ok k1
      obtain ⟨v3, c3, e3, k3, l3, m3⟩ := byte_ok k2
      have a1 : w64 (v1 * 65536) = v1 * 65536 := w64_id (by omega) (by omega)
      have a2 : w64 (v2 * 256) = v2 * 256 := w64_id (by omega) (by omega)
      have a3 : w64 (w64 (v1 * 65536) + w64 (v2 * 256)) = v1 * 65536 + v2 * 256 := by rw [a1, a2]; exact w64_id (by omega) (by omega)
      have a4 : w64 (w64 (w64 (v1 * 65536) + w64 (v2 * 256)) + v3) = v1 * 65536 + v2 * 256 + v3 := by rw [a3]; exact w64_id (by omega) (by omega)
      obtain ⟨q1, q2⟩ := hm (v1 * 65536 + v2 * 256 + v3) (by omega)
      refine ⟨(v1 * 65536 + v2 * 256 + v3).tmod n, c3, ?_, k3, q1, fun _ => q2, fun hh => absurd hh h0⟩
      show ((spec_l1Byte.c c).bind fun r1 => (spec_l1Byte.c (r1.m 0)).bind fun r2 => (spec_l1Byte.c (r2.m 0)).bind fun r3 => bif decide (n = 0) then none else (some ⟨[[.int ((w64 (w64 (w64 (r1.i 0 * 65536) + w64 (r2.i 0 * 256)) + r3.i 0)).tmod n)]], [r3.m 0]⟩ : O)) = _
      rw [e1]
      show ((spec_l1Byte.c c1).bind fun r2 => (spec_l1Byte.c (r2.m 0)).bind fun r3 => bif decide (n = 0) then none else (some ⟨[[.int ((w64 (w64 (w64 (v1 * 65536) + w64 (r2.i 0 * 256)) + r3.i 0)).tmod n)]], [r3.m 0]⟩ : O)) = _
      rw [e2]
      show ((spec_l1Byte.c c2).bind fun r3 => bif decide (n = 0) then none else (some ⟨[[.int ((w64 (w64 (w64 (v1 * 65536) + w64 (v2 * 256)) + r3.i 0)).tmod n)]], [r3.m 0]⟩ : O)) = _
      rw [e3, hz]
      show (some ⟨[[.int ((w64 (w64 (w64 (v1 * 65536) + w64 (v2 * 256)) + v3)).tmod n)]], [c3]⟩ : O) = _
      rw [a4]
    · obtain ⟨v1, c1, e1, k1, l1, m1⟩ := byte_ok hc
      obtain ⟨q1, q2⟩ := hm v1 l1
      refine ⟨v1.tmod n, c1, ?_, k1, q1, fun _ => q2, fun hh => absurd hh h0⟩
      show ((spec_l1Byte.c c).bind fun r0 => bif decide (n = 0) then none else (some ⟨[[.int ((r0.i 0).tmod n)]], [r0.m 0]⟩ : O)) = _
      rw [e1, hz]; rfl
  · exact ⟨0, c, rfl, hc, by omega, fun hh => absurd hh (by have := of_decide_eq_true h0; omega), fun _ => rfl⟩
theorem once_ok {c : LL} (hc : CurOk c) (n : Int) : ∃ v c', spec_l1Once.c n c = some ⟨[[.bool v]], [c']⟩ ∧ CurOk c' := by
  obtain ⟨v, c', e, k, _⟩ := below_ok hc n
  rw [spec_l1Once.eq, e]
  exact ⟨_, c', rfl, k⟩
theorem int_ok {c : LL} (hc : CurOk c) (l : LL) (hl : 0 < l.length) : ∃ j c', spec_l1Int.c c l = some ⟨[[.int (ui (l.getD j []) 0)]], [c', l]⟩ ∧ CurOk c' ∧ j < l.length := by
  obtain ⟨v, c', e, k, h1, h2, _⟩ := below_ok hc (ln l)
  have h2 : v < (l.length : Int) := h2 (by show (0 : Int) < (l.length : Int); omega)
  obtain ⟨j, rfl⟩ : ∃ j : Nat, v = (j : Int) := ⟨v.toNat, by omega⟩
  have hj : j < l.length := by omega
  rw [spec_l1Int.eq, e]
  refine ⟨j, c', ?_, k, hj⟩
  show grd (inRange (j : Int) l.length) _ = _
  rw [in_nat hj]; rfl
end Go.Proofs.Ytlkcpabdpmenpaa.Eng
