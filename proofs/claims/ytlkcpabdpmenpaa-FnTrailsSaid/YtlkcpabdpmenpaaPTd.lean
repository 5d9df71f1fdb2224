/- Trails that are drawn; a trail and an entry behind it; two trails joined. -/
import Derived.Test.YtlkcpabdpmenpaaPD1
namespace Go.Proofs.Ytlkcpabdpmenpaa.Eng
open Go.RowKit
set_option linter.unusedVariables false
set_option linter.unusedSimpArgs false
set_option linter.unusedSectionVars false
set_option maxRecDepth 100000
variable [Sm]
/-- An entry's row: nine numbers. -/
def E9 (x : List U) : Prop := x = [U.int (ui x 0), U.int (ui x 1), U.int (ui x 2), U.int (ui x 3), U.int (ui x 4), U.int (ui x 5), U.int (ui x 6), U.int (ui x 7), U.int (ui x 8)]
theorem entry_ok {c : LL} (hc : CurOk c) (a : Int) : ∃ i0 i2 i3 i4 i5 i6 i7 c', spec_l34Entry.c a c = some ⟨[[.int i0, .int a, .int i2, .int i3, .int i4, .int i5, .int i6, .int i7, .int 0]], [c']⟩ ∧ CurOk c' := by
  obtain ⟨v0, c0, e0, k0, _⟩ := below_ok hc 3
  obtain ⟨v1, c1, e1, k1, _⟩ := below_ok k0 2
  obtain ⟨v2, c2, e2, k2, _⟩ := below_ok k1 4
  obtain ⟨v3, c3, e3, k3, _⟩ := below_ok k2 3
  obtain ⟨v4, c4, e4, k4, _⟩ := below_ok k3 3
  obtain ⟨v5, c5, e5, k5, _⟩ := below_ok k4 6
  obtain ⟨v6, c6, e6, k6, _⟩ := below_ok k5 3
  have n3 : spec_l5Name.c 1 c2 = some ⟨[[.int (w64 (w64 (1 * 10) + v3))]], [c3]⟩ := by rw [spec_l5Name.eq, e3]; rfl
  have n4 : spec_l5Name.c 4 c3 = some ⟨[[.int (w64 (w64 (4 * 10) + v4))]], [c4]⟩ := by rw [spec_l5Name.eq, e4]; rfl
  rw [spec_l34Entry.eq, e0]
  refine ⟨w64 (1 + v0), w64 (1 + v1), v2, w64 (w64 (1 * 10) + v3), w64 (w64 (4 * 10) + v4), v5, v6, c6, ?_, k6⟩
  show ((spec_l1Below.c 2 c0).bind fun r1 => (spec_l1Below.c 4 (r1.m 0)).bind fun r2 => (spec_l5Name.c 1 (r2.m 0)).bind fun r3 => (spec_l5Name.c 4 (r3.m 0)).bind fun r4 => (spec_l1Below.c 6 (r4.m 0)).bind fun r5 => (spec_l1Below.c 3 (r5.m 0)).bind fun r6 => (some ⟨[[.int (w64 (1 + v0)), .int a, .int (w64 (1 + r1.i 0)), .int (r2.i 0), .int (r3.i 0), .int (r4.i 0), .int (r5.i 0), .int (r6.i 0), .int 0]], [r6.m 0]⟩ : O)) = _
  rw [e1]
  show ((spec_l1Below.c 4 c1).bind fun r2 => (spec_l5Name.c 1 (r2.m 0)).bind fun r3 => (spec_l5Name.c 4 (r3.m 0)).bind fun r4 => (spec_l1Below.c 6 (r4.m 0)).bind fun r5 => (spec_l1Below.c 3 (r5.m 0)).bind fun r6 => (some ⟨[[.int (w64 (1 + v0)), .int a, .int (w64 (1 + v1)), .int (r2.i 0), .int (r3.i 0), .int (r4.i 0), .int (r5.i 0), .int (r6.i 0), .int 0]], [r6.m 0]⟩ : O)) = _
  rw [e2]
  show ((spec_l5Name.c 1 c2).bind fun r3 => (spec_l5Name.c 4 (r3.m 0)).bind fun r4 => (spec_l1Below.c 6 (r4.m 0)).bind fun r5 => (spec_l1Below.c 3 (r5.m 0)).bind fun r6 => (some ⟨[[.int (w64 (1 + v0)), .int a, .int (w64 (1 + v1)), .int v2, .int (r3.i 0), .int (r4.i 0), .int (r5.i 0), .int (r6.i 0), .int 0]], [r6.m 0]⟩ : O)) = _
  rw [n3]
  show ((spec_l5Name.c 4 c3).bind fun r4 => (spec_l1Below.c 6 (r4.m 0)).bind fun r5 => (spec_l1Below.c 3 (r5.m 0)).bind fun r6 => (some ⟨[[.int (w64 (1 + v0)), .int a, .int (w64 (1 + v1)), .int v2, .int (w64 (w64 (1 * 10) + v3)), .int (r4.i 0), .int (r5.i 0), .int (r6.i 0), .int 0]], [r6.m 0]⟩ : O)) = _
  rw [n4]
  show ((spec_l1Below.c 6 c4).bind fun r5 => (spec_l1Below.c 3 (r5.m 0)).bind fun r6 => (some ⟨[[.int (w64 (1 + v0)), .int a, .int (w64 (1 + v1)), .int v2, .int (w64 (w64 (1 * 10) + v3)), .int (w64 (w64 (4 * 10) + v4)), .int (r5.i 0), .int (r6.i 0), .int 0]], [r6.m 0]⟩ : O)) = _
  rw [e5]
  show ((spec_l1Below.c 3 c5).bind fun r6 => (some ⟨[[.int (w64 (1 + v0)), .int a, .int (w64 (1 + v1)), .int v2, .int (w64 (w64 (1 * 10) + v3)), .int (w64 (w64 (4 * 10) + v4)), .int v5, .int (r6.i 0), .int 0]], [r6.m 0]⟩ : O)) = _
  rw [e6]; rfl
/-- A trail's last time is no later than a. -/
def Upto (xs : LL) (a : Int) : Prop := lastOk xs a = true
theorem upto_mono {xs : LL} {a b : Int} (h : Upto xs a) (hab : a ≤ b) : Upto xs b := by
  unfold Upto lastOk at *
  cases hc : decide (ln xs > 0)
  · rfl
  · rw [hc] at h
    have h : ¬ a < ui (xs.getD (xs.length - 1) []) 1 := by simpa using h
    show (!decide (b < ui (xs.getD (xs.length - 1) []) 1)) = true
    rw [decide_eq_false (show ¬ b < ui (xs.getD (xs.length - 1) []) 1 by omega)]; rfl
theorem upto_app (xs : LL) (i0 a i2 i3 i4 i5 i6 i7 : Int) : Upto (xs ++ [entRow xs i0 a i2 i3 i4 i5 i6 i7]) a := by
  unfold Upto lastOk
  have hg : (xs ++ [entRow xs i0 a i2 i3 i4 i5 i6 i7]).getD ((xs ++ [entRow xs i0 a i2 i3 i4 i5 i6 i7]).length - 1) [] = entRow xs i0 a i2 i3 i4 i5 i6 i7 := by
    rw [List.length_append, List.length_singleton, Nat.add_sub_cancel]; exact app_get _ _
  rw [hg]
  cases decide (ln (xs ++ [entRow xs i0 a i2 i3 i4 i5 i6 i7]) > 0)
  · rfl
  · show (!decide (a < a)) = true
    simp
/-- A trail that was drawn. -/
def TrOk (xs : LL) (n : Nat) (a : Int) : Prop := xs.length ≤ n ∧ Upto xs a ∧ ∀ x ∈ xs, E9 x
theorem TrOk.app {xs : LL} {n : Nat} {a b : Int} (h : TrOk xs n a) (hab : a ≤ b) (i0 i2 i3 i4 i5 i6 i7 : Int) : TrOk (xs ++ [entRow xs i0 b i2 i3 i4 i5 i6 i7]) (n + 1) b := by
  refine ⟨by rw [List.length_append]; have := h.1; simp; omega, upto_app _ _ _ _ _ _ _ _ _, fun x hx => ?_⟩
  rcases List.mem_append.1 hx with hx | hx
  · exact h.2.2 x hx
  · rw [List.mem_singleton] at hx
    subst hx; rfl
theorem TrOk.mono {xs : LL} {n m : Nat} {a b : Int} (h : TrOk xs n a) (hn : n ≤ m) (hab : a ≤ b) : TrOk xs m b := ⟨Nat.le_trans h.1 hn, upto_mono h.2.1 hab, h.2.2⟩
theorem trail_loop : ∀ (k : Nat) (c xs : LL) (n : Nat) (a : Int), CurOk c → TrOk xs n a → 0 ≤ a → a + 4 * k ≤ 1000 → n + k ≤ 1000 →
    ∃ tr c', spec_l34Trail.l0 a (k : Int) c xs = some ⟨[[.lst tr]], [c']⟩ ∧ CurOk c' ∧ TrOk tr (n + k) (a + 4 * k)
  | 0, c, xs, n, a, hc, hx, ha, hb, hn => by
    rw [spec_l34Trail.l0_eq]
    exact ⟨xs, c, rfl, hc, hx.mono (by omega) (by omega)⟩
  | k + 1, c, xs, n, a, hc, hx, ha, hb, hn => by
    obtain ⟨v, c1, e1, k1, h1, h2, _⟩ := below_ok hc 5
    have h2 := h2 (by omega)
    have ew : w64 (a + v) = a + v := w64_id (by omega) (by omega)
    obtain ⟨i0, i2, i3, i4, i5, i6, i7, c2, e2, k2⟩ := entry_ok k1 (a + v)
    have ep : w64 (((k + 1 : Nat) : Int) - 1) = (k : Int) := w_pred (by omega)
    have hl := hx.1
    have hd : decide (((k + 1 : Nat) : Int) > 0) = true := decide_eq_true (by omega)
    rw [spec_l34Trail.l0_eq, hd, e1]
    show ((spec_l34Entry.c (w64 (a + v)) c1).bind fun r2 => (spec_AppendEntry.c xs (r2.i 0) (r2.i 1) (r2.i 2) (r2.i 3) (r2.i 4) (r2.i 5) (r2.i 6) (r2.i 7) (r2.i 8)).bind fun r3 => spec_l34Trail.l0 (w64 (a + v)) (w64 (((k + 1 : Nat) : Int) - 1)) (r2.m 0) (r3.l 0)) |> fun z => ∃ tr c', z = some ⟨[[.lst tr]], [c']⟩ ∧ CurOk c' ∧ TrOk tr (n + (k + 1)) (a + 4 * ((k + 1 : Nat) : Int))
    rw [ew, ep, e2]
    show ((spec_AppendEntry.c xs i0 (a + v) i2 i3 i4 i5 i6 i7 0).bind fun r3 => spec_l34Trail.l0 (a + v) (k : Int) c2 (r3.l 0)) |> fun z => ∃ tr c', z = some ⟨[[.lst tr]], [c']⟩ ∧ CurOk c' ∧ TrOk tr (n + (k + 1)) (a + 4 * ((k + 1 : Nat) : Int))
    rw [s_append xs (by omega)]
    cases entOk xs i0 (a + v)
    · obtain ⟨tr, c', q1, q2, q3⟩ := trail_loop k c2 xs n (a + v) k2 (hx.mono (Nat.le_refl _) (by omega)) (by omega) (by omega) (by omega)
      exact ⟨tr, c', q1, q2, q3.mono (by omega) (by omega)⟩
    · obtain ⟨tr, c', q1, q2, q3⟩ := trail_loop k c2 _ (n + 1) (a + v) k2 (hx.app (b := a + v) (by omega) i0 i2 i3 i4 i5 i6 i7) (by omega) (by omega) (by omega)
      exact ⟨tr, c', q1, q2, q3.mono (by omega) (by omega)⟩
theorem trail_ok {c : LL} (hc : CurOk c) : ∃ tr c', spec_l34Trail.c c = some ⟨[[.lst tr]], [c']⟩ ∧ CurOk c' ∧ TrOk tr 5 20 := by
  obtain ⟨v, c1, e1, k1, h1, h2, _⟩ := below_ok hc 6
  have h2 := h2 (by omega)
  obtain ⟨k, rfl⟩ : ∃ k : Nat, v = (k : Int) := ⟨v.toNat, by omega⟩
  obtain ⟨tr, c', q1, q2, q3⟩ := trail_loop k c1 [] 0 0 k1 ⟨Nat.le_refl _, rfl, fun x hx => by simp at hx⟩ (by omega) (by omega) (by omega)
  rw [spec_l34Trail.eq, e1]
  exact ⟨tr, c', q1, q2, q3.mono (by omega) (by omega)⟩
theorem fill_trail (c : LL) : ∀ (k : Nat) (xs : LL), xs.length + k = 60 → TrOk xs xs.length 30 → ∃ ys, TrOk ys 60 30 ∧ spec_DrawAppendEntry.l0 0 0 0 0 0 0 0 0 0 c xs = spec_DrawAppendEntry.l0 0 0 0 0 0 0 0 0 0 c ys ∧ ys.length = 60
  | 0, xs, hk, hx => ⟨xs, hx.mono (by omega) (Int.le_refl _), rfl, by omega⟩
  | k + 1, xs, hk, hx => by
    have hd : decide (ln xs < 60) = true := decide_eq_true (by show (xs.length : Int) < 60; omega)
    have he : entOk xs 1 30 = true := by
      unfold entOk
      rw [show decide (ln xs ≥ 60) = false from decide_eq_false (by show ¬ (xs.length : Int) ≥ 60; omega), show lastOk xs 30 = true from hx.2.1]
      decide
    obtain ⟨ys, q1, q2, q3⟩ := fill_trail c k (xs ++ [entRow xs 1 30 0 0 0 0 0 0]) (by simp; omega) ((hx.app (Int.le_refl _) 1 0 0 0 0 0 0).mono (by simp) (Int.le_refl _))
    refine ⟨ys, q1, ?_, q3⟩
    rw [spec_DrawAppendEntry.l0_eq, hd, s_append xs (by omega), he]
    exact q2
end Go.Proofs.Ytlkcpabdpmenpaa.Eng
