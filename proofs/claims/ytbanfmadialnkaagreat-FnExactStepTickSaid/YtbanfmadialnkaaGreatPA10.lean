/- Sessions: started, reviewed. -/
import Derived.Test.YtbanfmadialnkaaGreatH
import Derived.Test.YtbanfmadialnkaaGreatPP
import Derived.Test.YtbanfmadialnkaaGreatPT
namespace Go.Proofs.YtbanfmadialnkaaGreat.Eng
open Go.RowKit
set_option linter.unusedVariables false
set_option linter.unusedSimpArgs false
set_option linter.unusedSectionVars false
set_option maxRecDepth 100000
variable [Sm]
theorem XD {xs : LL} (h : ∀ x ∈ xs, Dn x = 0) : Db xs = xs.length := by rw [ER, JC h]; rfl
theorem XC {xs : LL} (h : WR CZ.ct 206 xs) : Db xs = xs.length := XD fun x hx => by
 obtain ⟨c0, c1, c2, c3, c4, c5, c6, c7, c8, c9, rfl⟩ := PD (h.2 x hx)
 simp [Dn, Dt]
/-! ### Copies are what they copy -/
theorem TM : ∀ (n : Nat) (xs : LL), WR CZ.ct 318 xs → Db xs < n → JF n xs = xs
 | 0, xs, _, h => by omega
 | n + 1, xs, hw, h => by
  unfold JF
  refine (List.map_congr_left fun x hx => ?_).trans (List.map_id xs)
  obtain ⟨c0, c1, c2, c3, rfl, hc⟩ := RB (hw.2 x hx)
  have hm := DH hx
  simp only [Dn, Dt] at hm
  show [U.int c0, U.int c1, U.int c2, U.lst (JF n c3)] = [U.int c0, U.int c1, U.int c2, U.lst c3]
  rw [TM n c3 hc (by omega)]
theorem Sd {xs : LL} (hw : WR CZ.ct 320 xs) : FA xs = xs := by
 unfold FA
 refine (List.map_congr_left fun x hx => ?_).trans (List.map_id xs)
 obtain ⟨c0, c1, c2, c3, c4, c5, c6, rfl, hc⟩ := RC (hw.2 x hx)
 have hm := DH hx
 simp only [Dn, Dt] at hm
 show [U.int c0, U.int c1, U.int c2, U.int c3, U.int c4, U.int c5, U.lst (JF (Db xs) c6)] = _
 rw [TM _ c6 hc (by omega)]; rfl
/-! ### Sessions reviewed -/
/-- Whether a session is to close. -/
noncomputable def JS (ee : LL) (k : Int) (cs : LL) (now : Int) (x : List U) : Bool :=
 ub x 9 && (decide (Ds ee (fun y => decide (v0 y = ui x 1)) < 0) || (decide (Ds cs (fun y => decide (v0 y = ui x 2)) < 0) ||
  !KH (ui x 1) (ui x 2) (ui x 3) (ui x 4) (ui x 5) (ui x 6) (ui x 7) (ui x 8) (ub x 9) (gi ee (Ds ee (fun y => decide (v0 y = ui x 1))) 0) (gl ee (Ds ee (fun y => decide (v0 y = ui x 1))) 3) (gi ee (Ds ee (fun y => decide (v0 y = ui x 1))) 4) (gl ee (Ds ee (fun y => decide (v0 y = ui x 1))) 5) (gl ee (Ds ee (fun y => decide (v0 y = ui x 1))) 6) (gl ee (Ds ee (fun y => decide (v0 y = ui x 1))) 7) (gi ee (Ds ee (fun y => decide (v0 y = ui x 1))) 8) (gl ee (Ds ee (fun y => decide (v0 y = ui x 1))) 9) k
   (gi cs (Ds cs (fun y => decide (v0 y = ui x 2))) 0) (gi cs (Ds cs (fun y => decide (v0 y = ui x 2))) 1) (gi cs (Ds cs (fun y => decide (v0 y = ui x 2))) 2) (gi cs (Ds cs (fun y => decide (v0 y = ui x 2))) 3) (gi cs (Ds cs (fun y => decide (v0 y = ui x 2))) 4) (gi cs (Ds cs (fun y => decide (v0 y = ui x 2))) 5) now))
noncomputable def review (cl : List U → Bool) (xs : LL) : Nat → Nat → LL → Int → LL × Int
 | 0, _, s, n => (s, n)
 | k + 1, i, s, n => bif cl (xs.getD i []) then review cl xs k (i + 1) (bR s i 9 [U.bool false]) (n + 1) else review cl xs k (i + 1) s n
theorem Td (cl : List U → Bool) (xs : LL) (k i : Nat) (s : LL) (n : Int) : review cl xs (k + 1) i s n = bif cl (xs.getD i []) then review cl xs k (i + 1) (bR s i 9 [U.bool false]) (n + 1) else review cl xs k (i + 1) s n := rfl
theorem Tv {ss ee cs : LL} (hs : ss.length ≤ 1048576) (hp : WR CZ.ct 133 ee) (JV : Db ee ≤ 1048576) (aL : cs.length ≤ 1048576) (sec now : Int) :
  ∀ (k i : Nat) (s : LL) (n : Int), i + k = ss.length → s.length = ss.length → 0 ≤ n → n ≤ i → Gr.l0 ss ee sec cs now n (i : Int) s = some ⟨[[.lst (review (JS ee sec cs now) ss k i s n).1], [.int (review (JS ee sec cs now) ss k i s n).2]], []⟩
 | 0, i, s, n, hk, hl, h0, h1 => by
  have hk : ss.length ≤ i := by omega
  rw [Gr.Da, Dj hk]; rfl
 | k + 1, i, s, n, hk, hl, h0, h1 => by
  have hi : i < ss.length := by omega
  have fH := Dk ee
  have Sx := Tv hs hp JV aL sec now k (i + 1) s n (by omega) hl h0 (by omega)
  have Sy := Tv hs hp JV aL sec now k (i + 1) (bR s i 9 [U.bool false]) (n + 1) (by omega) (by rw [EK]; exact hl) (by omega) (by omega)
  rw [Gr.Da, Di hi, Dw hi, DG (by omega), aaJ ee (by omega), aar cs (by omega), Ix (n := n + 1) (by omega) (by omega), Dw (n := s.length) (by omega), Sx, Int.toNat_natCast, Sy, Td, show JS ee sec cs now (ss.getD i []) = (ub (ss.getD i []) 9 && _) from rfl]
  show (bif !ub (ss.getD i []) 9 then _ else bif decide (Ds ee (fun y => decide (v0 y = ui (ss.getD i []) 1)) < 0) then _ else bif decide (Ds cs (fun y => decide (v0 y = ui (ss.getD i []) 2)) < 0) then _ else Cu (dk (Ds ee (fun y => decide (v0 y = ui (ss.getD i []) 1))) ee.length) (Cu (dk (Ds cs (fun y => decide (v0 y = ui (ss.getD i []) 2))) cs.length) ((MP.c (ui (ss.getD i []) 0) (ui (ss.getD i []) 1) (ui (ss.getD i []) 2) (ui (ss.getD i []) 3) (ui (ss.getD i []) 4) (ui (ss.getD i []) 5) (ui (ss.getD i []) 6) (ui (ss.getD i []) 7) (ui (ss.getD i []) 8) (ub (ss.getD i []) 9) (gi ee (Ds ee (fun y => decide (v0 y = ui (ss.getD i []) 1))) 0) (gi ee (Ds ee (fun y => decide (v0 y = ui (ss.getD i []) 1))) 1) (gi ee (Ds ee (fun y => decide (v0 y = ui (ss.getD i []) 1))) 2) (gl ee (Ds ee (fun y => decide (v0 y = ui (ss.getD i []) 1))) 3) (gi ee (Ds ee (fun y => decide (v0 y = ui (ss.getD i []) 1))) 4) (gl ee (Ds ee (fun y => decide (v0 y = ui (ss.getD i []) 1))) 5) (gl ee (Ds ee (fun y => decide (v0 y = ui (ss.getD i []) 1))) 6) (gl ee (Ds ee (fun y => decide (v0 y = ui (ss.getD i []) 1))) 7) (gi ee (Ds ee (fun y => decide (v0 y = ui (ss.getD i []) 1))) 8) (gl ee (Ds ee (fun y => decide (v0 y = ui (ss.getD i []) 1))) 9) sec (gi cs (Ds cs (fun y => decide (v0 y = ui (ss.getD i []) 2))) 0) (gi cs (Ds cs (fun y => decide (v0 y = ui (ss.getD i []) 2))) 1) (gi cs (Ds cs (fun y => decide (v0 y = ui (ss.getD i []) 2))) 2) (gi cs (Ds cs (fun y => decide (v0 y = ui (ss.getD i []) 2))) 3) (gi cs (Ds cs (fun y => decide (v0 y = ui (ss.getD i []) 2))) 4) (gi cs (Ds cs (fun y => decide (v0 y = ui (ss.getD i []) 2))) 5) now).bind _))) = _
  cases kD : ub (ss.getD i []) 9
  ·rfl
  rcases KU ee (fun y => decide (v0 y = ui (ss.getD i []) 1)) with ⟨hj, _⟩ | ⟨j, hj, eY, _⟩
  ·rw [hj]; rfl
  rcases KU cs (fun y => decide (v0 y = ui (ss.getD i []) 2)) with ⟨hc, _⟩ | ⟨c, hc, eW, _⟩
  ·rw [hj, hc, Eo (by omega)]; rfl
  rw [hj, hc, Eo (by omega), Eo (by omega), Dw eY, Dw eW]
  rw [aay (UK hp JV eY)]
  show (bif !KH (ui (ss.getD i []) 1) (ui (ss.getD i []) 2) (ui (ss.getD i []) 3) (ui (ss.getD i []) 4) (ui (ss.getD i []) 5) (ui (ss.getD i []) 6) (ui (ss.getD i []) 7) (ui (ss.getD i []) 8) true (gi ee (j : Int) 0) (gl ee (j : Int) 3) (gi ee (j : Int) 4) (gl ee (j : Int) 5) (gl ee (j : Int) 6) (gl ee (j : Int) 7) (gi ee (j : Int) 8) (gl ee (j : Int) 9) sec (gi cs (c : Int) 0) (gi cs (c : Int) 1) (gi cs (c : Int) 2) (gi cs (c : Int) 3) (gi cs (c : Int) 4) (gi cs (c : Int) 5) now then _ else _) = _
  cases KH (ui (ss.getD i []) 1) (ui (ss.getD i []) 2) (ui (ss.getD i []) 3) (ui (ss.getD i []) 4) (ui (ss.getD i []) 5) (ui (ss.getD i []) 6) (ui (ss.getD i []) 7) (ui (ss.getD i []) 8) true (gi ee (j : Int) 0) (gl ee (j : Int) 3) (gi ee (j : Int) 4) (gl ee (j : Int) 5) (gl ee (j : Int) 6) (gl ee (j : Int) 7) (gi ee (j : Int) 8) (gl ee (j : Int) 9) sec (gi cs (c : Int) 0) (gi cs (c : Int) 1) (gi cs (c : Int) 2) (gi cs (c : Int) 3) (gi cs (c : Int) 4) (gi cs (c : Int) 5) now <;> rfl
theorem Sw {ss ee cs : LL} (hs : ss.length ≤ 1048576) (hp : WR CZ.ct 133 ee) (JV : Db ee ≤ 1048576) (aL : cs.length ≤ 1048576) (sec now : Int) :
  ∀ (k i : Nat) (s : LL) (n : Int), i + k = ss.length → s.length = ss.length → 0 ≤ n → n ≤ i → Ga.l0 ee sec cs now n ss (ln ss) (i : Int) s = some ⟨[[.lst (review (JS ee sec cs now) ss k i s n).1], [.int (review (JS ee sec cs now) ss k i s n).2]], []⟩
 | 0, i, s, n, hk, hl, h0, h1 => by
  have hk : ss.length ≤ i := by omega
  rw [Ga.Da, Dj hk]; rfl
 | k + 1, i, s, n, hk, hl, h0, h1 => by
  have hi : i < ss.length := by omega
  have fH := Dk ee
  have Sx := Sw hs hp JV aL sec now k (i + 1) s n (by omega) hl h0 (by omega)
  have Sy := Sw hs hp JV aL sec now k (i + 1) (bR s i 9 [U.bool false]) (n + 1) (by omega) (by rw [EK]; exact hl) (by omega) (by omega)
  rw [Ga.Da, Di hi, Dw hi, DG (by omega), YF ee (by omega), Ym cs (by omega), Ix (n := n + 1) (by omega) (by omega), Dw (n := s.length) (by omega), Sx, Int.toNat_natCast, Sy, Td, show JS ee sec cs now (ss.getD i []) = (ub (ss.getD i []) 9 && _) from rfl]
  show (bif ub (ss.getD i []) 9 then bif decide (Ds ee (fun y => decide (v0 y = ui (ss.getD i []) 1)) < 0) then _ else bif decide (Ds cs (fun y => decide (v0 y = ui (ss.getD i []) 2)) < 0) then _ else Cu (dk (Ds ee (fun y => decide (v0 y = ui (ss.getD i []) 1))) ee.length) (Cu (dk (Ds cs (fun y => decide (v0 y = ui (ss.getD i []) 2))) cs.length) ((Mi.c (ui (ss.getD i []) 0) (ui (ss.getD i []) 1) (ui (ss.getD i []) 2) (ui (ss.getD i []) 3) (ui (ss.getD i []) 4) (ui (ss.getD i []) 5) (ui (ss.getD i []) 6) (ui (ss.getD i []) 7) (ui (ss.getD i []) 8) (ub (ss.getD i []) 9) (gi ee (Ds ee (fun y => decide (v0 y = ui (ss.getD i []) 1))) 0) (gi ee (Ds ee (fun y => decide (v0 y = ui (ss.getD i []) 1))) 1) (gi ee (Ds ee (fun y => decide (v0 y = ui (ss.getD i []) 1))) 2) (gl ee (Ds ee (fun y => decide (v0 y = ui (ss.getD i []) 1))) 3) (gi ee (Ds ee (fun y => decide (v0 y = ui (ss.getD i []) 1))) 4) (gl ee (Ds ee (fun y => decide (v0 y = ui (ss.getD i []) 1))) 5) (gl ee (Ds ee (fun y => decide (v0 y = ui (ss.getD i []) 1))) 6) (gl ee (Ds ee (fun y => decide (v0 y = ui (ss.getD i []) 1))) 7) (gi ee (Ds ee (fun y => decide (v0 y = ui (ss.getD i []) 1))) 8) (gl ee (Ds ee (fun y => decide (v0 y = ui (ss.getD i []) 1))) 9) sec (gi cs (Ds cs (fun y => decide (v0 y = ui (ss.getD i []) 2))) 0) (gi cs (Ds cs (fun y => decide (v0 y = ui (ss.getD i []) 2))) 1) (gi cs (Ds cs (fun y => decide (v0 y = ui (ss.getD i []) 2))) 2) (gi cs (Ds cs (fun y => decide (v0 y = ui (ss.getD i []) 2))) 3) (gi cs (Ds cs (fun y => decide (v0 y = ui (ss.getD i []) 2))) 4) (gi cs (Ds cs (fun y => decide (v0 y = ui (ss.getD i []) 2))) 5) now).bind _)) else _) = _
  cases kD : ub (ss.getD i []) 9
  ·rfl
  rcases KU ee (fun y => decide (v0 y = ui (ss.getD i []) 1)) with ⟨hj, _⟩ | ⟨j, hj, eY, _⟩
  ·rw [hj]; rfl
  rcases KU cs (fun y => decide (v0 y = ui (ss.getD i []) 2)) with ⟨hc, _⟩ | ⟨c, hc, eW, _⟩
  ·rw [hj, hc, Eo (by omega)]; rfl
  rw [hj, hc, Eo (by omega), Eo (by omega), Dw eY, Dw eW]
  rw [Yu (UK hp JV eY)]
  show (bif !KH (ui (ss.getD i []) 1) (ui (ss.getD i []) 2) (ui (ss.getD i []) 3) (ui (ss.getD i []) 4) (ui (ss.getD i []) 5) (ui (ss.getD i []) 6) (ui (ss.getD i []) 7) (ui (ss.getD i []) 8) true (gi ee (j : Int) 0) (gl ee (j : Int) 3) (gi ee (j : Int) 4) (gl ee (j : Int) 5) (gl ee (j : Int) 6) (gl ee (j : Int) 7) (gi ee (j : Int) 8) (gl ee (j : Int) 9) sec (gi cs (c : Int) 0) (gi cs (c : Int) 1) (gi cs (c : Int) 2) (gi cs (c : Int) 3) (gi cs (c : Int) 4) (gi cs (c : Int) 5) now then _ else _) = _
  cases KH (ui (ss.getD i []) 1) (ui (ss.getD i []) 2) (ui (ss.getD i []) 3) (ui (ss.getD i []) 4) (ui (ss.getD i []) 5) (ui (ss.getD i []) 6) (ui (ss.getD i []) 7) (ui (ss.getD i []) 8) true (gi ee (j : Int) 0) (gl ee (j : Int) 3) (gi ee (j : Int) 4) (gl ee (j : Int) 5) (gl ee (j : Int) 6) (gl ee (j : Int) 7) (gi ee (j : Int) 8) (gl ee (j : Int) 9) sec (gi cs (c : Int) 0) (gi cs (c : Int) 1) (gi cs (c : Int) 2) (gi cs (c : Int) 3) (gi cs (c : Int) 4) (gi cs (c : Int) 5) now <;> rfl
theorem aaY {s : LL} (h : WR CZ.ct 206 s) {i : Nat} (hi : i < s.length) : WR CZ.ct 206 (bR s i 9 [U.bool false]) := by
 refine ⟨by rw [EK]; exact h.1, fun y hy => ?_⟩
 rw [DL] at hy
 rcases List.mem_or_eq_of_mem_set hy with hy | rfl
 ·exact h.2 y hy
 ·have hx := h.2 _ (Dg hi (z := []))
  obtain ⟨c0, c1, c2, c3, c4, c5, c6, c7, c8, c9, e⟩ := PD hx
  rw [e] at hx ⊢
  have w := fun (j : Nat) (c : Int) (h1 : (CZ.ct 206)[j]? = some (.int .i64)) (h2 : [U.int c0, U.int c1, U.int c2, U.int c3, U.int c4, U.int c5, U.int c6, U.int c7, U.int c8, U.bool c9][j]? = some (.int c)) => hx.2 j _ _ h1 h2
  exact Kv (w 0 _ rfl rfl) (Kv (w 1 _ rfl rfl) (Kv (w 2 _ rfl rfl) (Kv (w 3 _ rfl rfl) (Kv (w 4 _ rfl rfl) (Kv (w 5 _ rfl rfl) (Kv (w 6 _ rfl rfl) (Kv (w 7 _ rfl rfl) (Kv (w 8 _ rfl rfl) (Kv (.bool false) acj)))))))))
theorem Tc (cl : List U → Bool) (ss : LL) : ∀ (k i : Nat) (s : LL) (n : Int), i + k = ss.length → s.length = ss.length → WR CZ.ct 206 s → WR CZ.ct 206 (review cl ss k i s n).1 ∧ (review cl ss k i s n).1.length = ss.length
 | 0, i, s, n, _, hl, h => ⟨h, hl⟩
 | k + 1, i, s, n, hk, hl, h => by
  rw [Td]
  cases cl (ss.getD i [])
  ·exact Tc cl ss k (i + 1) s n (by omega) hl h
  ·exact Tc cl ss k (i + 1) _ (n + 1) (by omega) (by rw [EK]; exact hl) (aaY h (by omega))
end Go.Proofs.YtbanfmadialnkaaGreat.Eng
/- half -/
