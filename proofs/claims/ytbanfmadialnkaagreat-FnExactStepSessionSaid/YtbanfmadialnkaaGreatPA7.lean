/- Who is below a role: the program's queue. -/
import Derived.Test.YtbanfmadialnkaaGreatPA6
namespace Go.Proofs.YtbanfmadialnkaaGreat.Eng
open Go.RowKit
set_option linter.unusedVariables false
set_option linter.unusedSimpArgs false
set_option linter.unusedSectionVars false
set_option maxRecDepth 100000
variable [Sm]
theorem Wp (l : LL) (hl : l.length ≤ 4611686018427387904) (a : Int) (c0 c1 c2 c3 c4 c5 : Bool) : ∀ i, i ≤ l.length → ∀ (f : Mk) (q : LL), q.length + (6 - Im f) ≤ 100 →
  Ez.l1 l a l (ln l) (i : Int) c0 c1 c2 c3 c4 c5 (f 0) (f 1) (f 2) (f 3) (f 4) (f 5) q = Ez.l0 l c0 c1 c2 c3 c4 c5 ((Ew a (l.drop i) f).1 0) ((Ew a (l.drop i) f).1 1) ((Ew a (l.drop i) f).1 2) ((Ew a (l.drop i) f).1 3) ((Ew a (l.drop i) f).1 4) ((Ew a (l.drop i) f).1 5) (q ++ (Ew a (l.drop i) f).2) := by
 refine down l.length ?_ ?_
 ·intro f q hq
  rw [Ez.HA, Dj (Nat.le_refl _), List.drop_length]
  show Ez.l0 _ _ _ _ _ _ _ _ _ _ _ _ _ q = Ez.l0 _ _ _ _ _ _ _ _ _ _ _ _ _ (q ++ [])
  rw [List.append_nil]; rfl
 ·intro i hi ih f q hq
  rw [Ez.HA, Di hi, DE hi, DJ (by omega), Mt hi]
  have e0 : gi l (i : Int) 0 = ui (l.getD i []) 0 := rfl
  have e1 : gi l (i : Int) 1 = ui (l.getD i []) 1 := rfl
  rw [e0, e1]
  unfold Ew
  generalize ui (l.getD i []) 0 = x
  generalize ui (l.getD i []) 1 = y
  simp only [Uv, q0, qb, Gw, cond_true]
  by_cases hx : x = a
  rotate_left
  ·rw [decide_eq_false hx, if_neg (fun h => hx h.1)]
   exact ih f q hq
  cases hy : within y 0 5
  ·rw [decide_eq_true hx, if_neg (fun h => by
    rw [acs h.2.1.1 h.2.1.2] at hy; cases hy)]
   exact ih f q hq
  obtain ⟨h1, h2⟩ := En hy
  obtain ⟨k, rfl⟩ := Int.eq_ofNat_of_zero_le h1
  have hk : k < 6 := by omega
  rw [decide_eq_true hx, cond_true, cond_true, DE hk, Int.toNat_natCast, TP f hk]
  show Cu (decide (k < 6)) (bif !(f k) then Cu (decide (k < 6)) (Cu (room (q.length + 1) 8) _) else _) = _
  rw [decide_eq_true hk]
  cases hf : f k
  ·have hc := Sx hk hf
   have hle := Sw (up f k)
   rw [if_pos ⟨hx, ⟨h1, h2⟩, rfl⟩]
   show Cu (room (q.length + 1) 8) _ = _
   rw [Dq (by omega) (by omega), Gw]
   have := ih (up f k) (q ++ [[U.int (k : Int)]]) (by rw [List.length_append]; show q.length + 1 + _ ≤ _; omega)
   rw [List.append_assoc] at this
   exact this
  ·rw [if_neg (fun h => by cases h.2.2)]
   exact ih f q hq
theorem TO (l : LL) (hl : l.length ≤ 4611686018427387904) (r : Nat) (c0 c1 c2 c3 c4 c5 : Bool) : ∀ (n : Nat) (f : Mk) (q : LL), Kx l r f q → q.length + (6 - Im f) ≤ n → n ≤ 100 →
  Ez.l0 l c0 c1 c2 c3 c4 c5 (f 0) (f 1) (f 2) (f 3) (f 4) (f 5) q = some ⟨[[.bool (Ig l r 0), .bool (Ig l r 1), .bool (Ig l r 2), .bool (Ig l r 3), .bool (Ig l r 4), .bool (Ig l r 5)]], []⟩
 | n, f, [], h, hn, h100 => by
  have e : f = Ig l r := by
   funext k
   rw [Bool.eq_iff_iff, h.done k]
   simp [Ig]
  rw [Ez.Da, e]; rfl
 | 0, f, y :: q, h, hn, h100 => by simp at hn
 | n + 1, f, y :: q, h, hn, h100 => by
  have e1 : List.take (ln (y :: q) - 1).toNat (List.drop (Int.toNat 1) (y :: q)) = q := by
   show List.take (ln (y :: q) - 1).toNat q = q
   refine List.take_of_length_le ?_
   show q.length ≤ (((q.length + 1 : Nat) : Int) - 1).toNat
   omega
  have e2 : decide ((0 : Int) ≤ 1 ∧ (1 : Int) ≤ ln (y :: q) ∧ ln (y :: q) ≤ ln (y :: q)) = true := by
   refine decide_eq_true ⟨by omega, ?_, Int.le_refl _⟩
   show (1 : Int) ≤ ((q.length + 1 : Nat) : Int)
   omega
  have e3 : decide (ln (y :: q) > 0) = true := by
   refine decide_eq_true ?_
   show (0 : Int) < ((q.length + 1 : Nat) : Int)
   omega
  have bT : q.length + 1 + (6 - Im f) ≤ n + 1 := hn
  have h1 := Sr (ui y 0) l f
  have h2 := Sw (Ew (ui y 0) l f).1
  rw [Ez.Da, e3, e2, e1, show dk (0 : Int) (y :: q).length = true from DE (i := 0) (Nat.succ_pos _)]
  show Ez.l1 l (ui y 0) l (ln l) 0 c0 c1 c2 c3 c4 c5 (f 0) (f 1) (f 2) (f 3) (f 4) (f 5) q = _
  have h3 := Wp l hl (ui y 0) c0 c1 c2 c3 c4 c5 0 (Nat.zero_le _) f q (by omega)
  rw [List.drop_zero] at h3
  exact h3.trans (TO l hl r c0 c1 c2 c3 c4 c5 n _ _ h.next (by rw [List.length_append]; omega) (by omega))
theorem Wz : LH := fun l r hl hr => by
 rw [Ez.eq]
 exact TO l hl r false false false false false false 100 (fun _ => false) [[U.int (r : Int)]] (Kx.init l hr) (by show 1 + _ ≤ _; omega) (Nat.le_refl _)
end Go.Proofs.YtbanfmadialnkaaGreat.Eng
/- half -/
