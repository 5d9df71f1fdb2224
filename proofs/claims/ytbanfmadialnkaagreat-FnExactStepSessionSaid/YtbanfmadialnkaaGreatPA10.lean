/- Sessions: started, reviewed. -/
import Derived.Test.YtbanfmadialnkaaGreatH
import Derived.Test.YtbanfmadialnkaaGreatPP
import Derived.Test.YtbanfmadialnkaaGreatPT
namespace Go.Proofs.YtbanfmadialnkaaGreat.Eng
open Go.RowKit
set_option linter.unusedVariables false
set_option linter.unusedSimpArgs false
set_option linter.unusedSectionVars false
set_option maxRecDepth 100000
variable [Sm]
theorem Ug {xs : LL} (h : ∀ x ∈ xs, Dp x = 0) : Db xs = xs.length := by rw [ES, JH h]; rfl
theorem XP {xs : LL} (h : WR CZ.ct 255 xs) : Db xs = xs.length := Ug fun x hx => by
 obtain ⟨c0, c1, c2, c3, c4, c5, c6, c7, rfl⟩ := PV (h.2 x hx)
 simp [Dp, Ds]
theorem XQ {xs : LL} (h : WR CZ.ct 206 xs) : Db xs = xs.length := Ug fun x hx => by
 obtain ⟨c0, c1, c2, c3, c4, c5, c6, c7, c8, c9, rfl⟩ := RX (h.2 x hx)
 simp [Dp, Ds]
/-! ### Copies are what they copy -/
theorem TX : ∀ (n : Nat) (xs : LL), WR CZ.ct 318 xs → Db xs < n → JK n xs = xs
 | 0, xs, _, h => by omega
 | n + 1, xs, hw, h => by
  unfold JK
  refine (List.map_congr_left fun x hx => ?_).trans (List.map_id xs)
  obtain ⟨c0, c1, c2, c3, rfl, hc⟩ := RY (hw.2 x hx)
  have hm := DH hx
  simp only [Dp, Ds] at hm
  show [U.int c0, U.int c1, U.int c2, U.lst (JK n c3)] = [U.int c0, U.int c1, U.int c2, U.lst c3]
  rw [TX n c3 hc (by omega)]
theorem QX {xs : LL} (hw : WR CZ.ct 320 xs) : EM xs = xs := by
 unfold EM
 refine (List.map_congr_left fun x hx => ?_).trans (List.map_id xs)
 obtain ⟨c0, c1, c2, c3, c4, c5, c6, rfl, hc⟩ := RZ (hw.2 x hx)
 have hm := DH hx
 simp only [Dp, Ds] at hm
 show [U.int c0, U.int c1, U.int c2, U.int c3, U.int c4, U.int c5, U.lst (JK (Db xs) c6)] = _
 rw [TX _ c6 hc (by omega)]; rfl
/-! ### Saved decisions of their type -/
theorem Xb (l s : LL) (v : Int) (rs : LL) (p d g a o n : Int) : Fs l s v rs p d g a o n = 0 ∨ Fs l s v rs p d g a o n = 1 := by
 unfold Fs QY
 cases EA p d g a o n
 ·exact .inl rfl
 cases Kb v rs
 ·exact .inl rfl
 rw [cond_true, cond_true]
 cases List.any _ _
 ·cases List.isEmpty _
  ·exact .inr rfl
  ·exact .inl rfl
 ·exact .inl rfl
theorem VE (dec : Int → Int) (FR lim : Int) : ∀ (k : Nat) (t : Int), t ≤ stays dec FR lim k t ∧ (stays dec FR lim k t ≤ lim ∨ stays dec FR lim k t = t)
 | 0, t => ⟨Int.le_refl _, .inr rfl⟩
 | k + 1, t => by
  unfold stays
  by_cases h : t < lim
  ·rw [decide_eq_true h, cond_true]
   obtain ⟨h1, h2⟩ := VE dec FR lim k (t + 1)
   cases decide (dec (t + 1) = FR)
   ·exact ⟨Int.le_refl _, .inr rfl⟩
   ·exact ⟨by show t ≤ stays _ _ _ _ _; omega, by
     show stays _ _ _ _ _ ≤ lim ∨ _
     rcases h2 with h2 | h2
     ·exact .inl h2
     ·left; omega⟩
  ·rw [decide_eq_false h]; exact ⟨Int.le_refl _, .inr rfl⟩
theorem acp (l s : LL) (v : Int) (rs : LL) {p d g a o n m : Int} (h : -9223372036854775808 ≤ n ∧ n ≤ 9223372036854775807) : -9223372036854775808 ≤ JR l s v rs p d g a o n m ∧ JR l s v rs p d g a o n m ≤ 9223372036854775807 := by
 unfold JR
 cases EA p d g a o n
 ·exact h
 cases Kb v rs
 ·exact h
 cases within m 0 60
 ·exact h
 obtain ⟨h1, h2⟩ := VE (fun t => Fs l s v rs p d g a o t) (Fs l s v rs p d g a o n) (min (n + m) 10000) 61 n
 show -9223372036854775808 ≤ stays _ _ _ _ _ ∧ stays _ _ _ _ _ ≤ 9223372036854775807
 rcases h2 with h2 | h2 <;> omega
theorem Tp {p d g a o n : Int} (h : EA p d g a o n = true) : (0 ≤ p ∧ p ≤ 1000) ∧ (0 ≤ d ∧ d ≤ 1000) ∧ (0 ≤ g ∧ g ≤ 1000) ∧ (0 ≤ a ∧ a ≤ 1000) ∧ (0 ≤ o ∧ o ≤ 1000) ∧ 0 ≤ n ∧ n ≤ 10000 := by
 unfold EA at h
 simp only [Bool.and_eq_true] at h
 obtain ⟨h1, h2, h3, h4, h5, h6⟩ := h
 unfold Io at h1 h2 h3 h4
 simp only [Bool.and_eq_true] at h1 h2 h3 h4
 have := En h1.1
 have := En h2.1
 have := En h3.1
 have := En h4.1
 have := En h5
 have := En h6
 omega
theorem aak {x : List U} (h : xz CZ.ct (CZ.ct 255) x) : PZ x = x := by
 obtain ⟨c0, c1, c2, c3, c4, c5, c6, c7, rfl⟩ := PV h
 rfl
theorem ZB {xs : LL} (h : WR CZ.ct 255 xs) (hl : xs.length ≤ 1048576) {p d g a o n c u : Int} (hq : EA p d g a o n = true) (hc : c = 0 ∨ c = 1) (hu : -9223372036854775808 ≤ u ∧ u ≤ 9223372036854775807) :
  WR CZ.ct 255 (MK xs p d g a o n c u) ∧ (MK xs p d g a o n c u).length ≤ 1048577 := by
 have hb := Tp hq
 have e : (xs.filter (other p d g a o)).map PZ = xs.filter (other p d g a o) := (List.map_congr_left fun x hx => aak (h.2 x (List.mem_filter.1 hx).1)).trans (List.map_id _)
 have hf : (xs.filter (other p d g a o)).length ≤ xs.length := List.length_filter_le _ _
 have w : WR CZ.ct 255 (xs.filter (other p d g a o) ++ [[U.int p, U.int d, U.int g, U.int a, U.int o, U.int n, U.int c, U.int u]]) :=
  (h.sub hf fun y hy => (List.mem_filter.1 hy).1).app (WR.one (e := 255) (Gu (Hs (by omega)) (Gu (Hs (by omega)) (Gu (Hs (by omega)) (Gu (Hs (by omega)) (Gu (Hs (by omega)) (Gu (Hs (by omega)) (Gu (Hs (by omega)) (Gu (Hs hu) VQ))))))))) (by simp; omega)
 have hlen : (xs.filter (other p d g a o) ++ [[U.int p, U.int d, U.int g, U.int a, U.int o, U.int n, U.int c, U.int u]]).length ≤ 1048577 := by simp; omega
 unfold MK Ms
 rw [e]
 cases decide (ln (xs.filter (other p d g a o) ++ [[U.int p, U.int d, U.int g, U.int a, U.int o, U.int n, U.int c, U.int u]]) > 8)
 ·exact ⟨w, hlen⟩
 ·refine ⟨w.sub (by simp only [cond_true, List.length_drop]; omega) fun y hy => List.mem_of_mem_drop hy, ?_⟩
  simp only [cond_true, List.length_drop]; omega
theorem Wj {ps rs s rv sv : LL} (h : WR CZ.ct 255 sv) (hl : sv.length ≤ 1048576) (v sy k c0 c1 c2 c3 c4 c5 p d g a o now : Int) : WR CZ.ct 255 (Ky ps v rs s rv sy sv k c0 c1 c2 c3 c4 c5 p d g a o now) ∧ (Ky ps v rs s rv sy sv k c0 c1 c2 c3 c4 c5 p d g a o now).length ≤ 1048577 := by
 have base : WR CZ.ct 255 sv ∧ sv.length ≤ 1048577 := ⟨h, by omega⟩
 unfold Ky
 cases hq : EA p d g a o now
 ·exact base
 cases JU k c0 c1 c2 c3 c4 c5 now
 ·exact base
 cases decide (c1 = d)
 ·exact base
 cases IZ sy now 10
 ·exact base
 cases KS rv c0 now
 ·rw [cond_true, cond_true, cond_true, cond_true, cond_false]
  cases decide (DC sv (IA p d g a o now) ≥ 0)
  ·have hb := Tp hq
   exact ZB h hl hq (Xb ..) (acp ps s v rs (by omega))
  ·exact base
 ·exact base
/-! ### Sessions -/
def Qc (i : Nat) (x : List U) : Bool := decide (ui x 0 = ((i + 1 : Nat) : Int)) && (!decide (ui x 1 < 1) && (!decide (ui x 2 < 1) && EA (ui x 3) (ui x 4) (ui x 5) (ui x 6) (ui x 7) (ui x 8)))
def KW (xs : LL) : Bool := (List.range xs.length).all (fun i => Qc i (xs.getD i [])) && decide (ln xs ≤ 10)
theorem aao (xs : LL) (hx : xs.length ≤ 4611686018427387904) : Jx.c xs = rB (KW xs) := by
 rw [Jx.eq]
 refine QT (l0 := fun i => Jx.l0 xs i) (n := xs.length) (p := fun i => Qc i (xs.getD i [])) ?_ fun i hi => ?_
 ·rw [Jx.Da, Dj (Nat.le_refl _)]; rfl
 ·rw [Jx.Da, Di hi, DE hi, DJ (by omega), Sa]
  unfold Qc
  show (bif !decide (ui (xs.getD i []) 0 = _) then _ else bif decide (ui (xs.getD i []) 1 < 1) then _ else bif decide (ui (xs.getD i []) 2 < 1) then _ else bif !EA (ui (xs.getD i []) 3) (ui (xs.getD i []) 4) (ui (xs.getD i []) 5) (ui (xs.getD i []) 6) (ui (xs.getD i []) 7) (ui (xs.getD i []) 8) then _ else _) = _
  cases decide (ui (xs.getD i []) 0 = ((i + 1 : Nat) : Int)) <;> cases decide (ui (xs.getD i []) 1 < 1) <;> cases decide (ui (xs.getD i []) 2 < 1) <;> cases EA (ui (xs.getD i []) 3) (ui (xs.getD i []) 4) (ui (xs.getD i []) 5) (ui (xs.getD i []) 6) (ui (xs.getD i []) 7) (ui (xs.getD i []) 8) <;> rfl
theorem Yt (xs : LL) (hx : xs.length ≤ 4611686018427387904) : Jc.c xs = rB (KW xs) := by
 rw [Jc.eq]
 refine QT (l0 := fun i => Jc.l0 xs xs _ i) (n := xs.length) (p := fun i => Qc i (xs.getD i [])) ?_ fun i hi => ?_
 ·rw [Jc.Da, Dj (Nat.le_refl _)]; rfl
 ·rw [Jc.Da, Di hi, DE hi, DJ (by omega), Rv]
  unfold Qc
  show (bif !decide (ui (xs.getD i []) 0 = _) then _ else bif decide (ui (xs.getD i []) 1 < 1) then _ else bif decide (ui (xs.getD i []) 2 < 1) then _ else bif !EA (ui (xs.getD i []) 3) (ui (xs.getD i []) 4) (ui (xs.getD i []) 5) (ui (xs.getD i []) 6) (ui (xs.getD i []) 7) (ui (xs.getD i []) 8) then _ else _) = _
  cases decide (ui (xs.getD i []) 0 = ((i + 1 : Nat) : Int)) <;> cases decide (ui (xs.getD i []) 1 < 1) <;> cases decide (ui (xs.getD i []) 2 < 1) <;> cases EA (ui (xs.getD i []) 3) (ui (xs.getD i []) 4) (ui (xs.getD i []) 5) (ui (xs.getD i []) 6) (ui (xs.getD i []) 7) (ui (xs.getD i []) 8) <;> rfl
/-- What a started session leaves: sessions, saved decisions, the answer. -/
noncomputable def IY (ss : LL) (i : Int) (ps : LL) (v : Int) (rs s rv : LL) (sy : Int) (sv : LL) (k c0 c1 c2 c3 c4 c5 p d g a o now : Int) : LL × LL × Int :=
 bif KW ss then bif decide (ln ss ≥ 10) then (ss, sv, 4) else bif decide (i < 1) then (ss, sv, 4) else
  bif decide (JJ ps v rs s rv sy sv k c0 c1 c2 c3 c4 c5 p d g a o now = 1) then (ss ++ [[U.int (ln ss + 1), U.int i, U.int c0, U.int p, U.int d, U.int g, U.int a, U.int o, U.int now, U.bool true]], Ky ps v rs s rv sy sv k c0 c1 c2 c3 c4 c5 p d g a o now, 1)
  else (ss, Ky ps v rs s rv sy sv k c0 c1 c2 c3 c4 c5 p d g a o now, JJ ps v rs s rv sy sv k c0 c1 c2 c3 c4 c5 p d g a o now)
 else (ss, sv, 4)
theorem aa3 (ss : LL) (mH : ss.length ≤ 1048576) {i n a' : Int} {ps : LL} {v : Int} {rs s rv : LL} {sy : Int} {sv : LL} (h : Mq ps rs s rv sv) (k c0 c1 c2 c3 c4 c5 p d g a o now : Int) :
  Nj.c ss i n a' ps v rs s rv sy sv k c0 c1 c2 c3 c4 c5 p d g a o now = some ⟨[[.lst (IY ss i ps v rs s rv sy sv k c0 c1 c2 c3 c4 c5 p d g a o now).1], [.int i, .int n, .int a', .lst ps, .int v, .lst (EM rs), .lst s, .lst rv, .int sy, .lst (IY ss i ps v rs s rv sy sv k c0 c1 c2 c3 c4 c5 p d g a o now).2.1], [.int (IY ss i ps v rs s rv sy sv k c0 c1 c2 c3 c4 c5 p d g a o now).2.2]], []⟩ := by
 have hp := h
 obtain ⟨h1, h2, h3, h4, h5⟩ := h
 have hl : ln ss = (ss.length : Int) := rfl
 rw [Nj.eq, Dq (by omega) (by omega), aao ss (by omega), TA i n a' ps v rs s rv sy sv (by omega) h2 (by omega) (by omega) (by omega), aaq hp, Dq (by simp; omega) (by simp; omega), Ij (n := ln ss + 1) (by omega) (by omega)]
 unfold IY
 show (bif !KW ss then _ else bif decide (ln ss ≥ 10) then _ else bif decide (i < 1) then _ else bif decide (JJ ps v rs s rv sy sv k c0 c1 c2 c3 c4 c5 p d g a o now = 1) then _ else _) = _
 cases KW ss
 ·rfl
 cases decide (ln ss ≥ 10)
 ·cases decide (i < 1)
  ·by_cases hc : JJ ps v rs s rv sy sv k c0 c1 c2 c3 c4 c5 p d g a o now = 1
   ·rw [hc]; rfl
   ·rw [decide_eq_false hc]; rfl
  ·rfl
 ·rfl
theorem Zh (ss : LL) (mH : ss.length ≤ 1048576) {i n a' : Int} {ps : LL} {v : Int} {rs s rv : LL} {sy : Int} {sv : LL} (h : Mq ps rs s rv sv) (k c0 c1 c2 c3 c4 c5 p d g a o now : Int) :
  ME.c ss i n a' ps v rs s rv sy sv k c0 c1 c2 c3 c4 c5 p d g a o now = some ⟨[[.lst (IY ss i ps v rs s rv sy sv k c0 c1 c2 c3 c4 c5 p d g a o now).1], [.int i, .int n, .int a', .lst ps, .int v, .lst (EM rs), .lst s, .lst rv, .int sy, .lst (IY ss i ps v rs s rv sy sv k c0 c1 c2 c3 c4 c5 p d g a o now).2.1], [.int (IY ss i ps v rs s rv sy sv k c0 c1 c2 c3 c4 c5 p d g a o now).2.2]], []⟩ := by
 have hp := h
 obtain ⟨h1, h2, h3, h4, h5⟩ := h
 have hl : ln ss = (ss.length : Int) := rfl
 rw [ME.eq, Dq (by omega) (by omega), Yt ss (by omega), SK i n a' ps v rs s rv sy sv (by omega) h2 (by omega) (by omega) (by omega), Yv hp, Dq (by simp; omega) (by simp; omega), Ij (n := ln ss + 1) (by omega) (by omega)]
 unfold IY
 show (bif !KW ss then _ else bif decide (ln ss ≥ 10) then _ else bif decide (i < 1) then _ else bif decide (JJ ps v rs s rv sy sv k c0 c1 c2 c3 c4 c5 p d g a o now = 1) then _ else _) = _
 cases KW ss
 ·rfl
 cases decide (ln ss ≥ 10)
 ·cases decide (i < 1)
  ·by_cases hc : JJ ps v rs s rv sy sv k c0 c1 c2 c3 c4 c5 p d g a o now = 1
   ·rw [hc]; rfl
   ·rw [decide_eq_false hc]; rfl
  ·rfl
 ·rfl
theorem abb {ss : LL} (hw : WR CZ.ct 206 ss) (mH : ss.length ≤ 1048576) {i : Int} (hi : -9223372036854775808 ≤ i ∧ i ≤ 9223372036854775807) {ps : LL} {v : Int} {rs s rv : LL} {sy : Int} {sv : LL} (bI : WR CZ.ct 255 sv) (hl : sv.length ≤ 1048576) {k c0 c1 c2 c3 c4 c5 p d g a o now : Int} (hc : -9223372036854775808 ≤ c0 ∧ c0 ≤ 9223372036854775807) :
  (WR CZ.ct 206 (IY ss i ps v rs s rv sy sv k c0 c1 c2 c3 c4 c5 p d g a o now).1 ∧ (IY ss i ps v rs s rv sy sv k c0 c1 c2 c3 c4 c5 p d g a o now).1.length ≤ 1048577) ∧
  (WR CZ.ct 255 (IY ss i ps v rs s rv sy sv k c0 c1 c2 c3 c4 c5 p d g a o now).2.1 ∧ (IY ss i ps v rs s rv sy sv k c0 c1 c2 c3 c4 c5 p d g a o now).2.1.length ≤ 1048577) := by
 have b1 : WR CZ.ct 206 ss ∧ ss.length ≤ 1048577 := ⟨hw, by omega⟩
 have b2 : WR CZ.ct 255 sv ∧ sv.length ≤ 1048577 := ⟨bI, by omega⟩
 have b3 := Wj (ps := ps) (rs := rs) (s := s) (rv := rv) bI hl v sy k c0 c1 c2 c3 c4 c5 p d g a o now
 have hln : ln ss = (ss.length : Int) := rfl
 unfold IY
 cases KW ss
 ·exact ⟨b1, b2⟩
 cases decide (ln ss ≥ 10)
 ·cases decide (i < 1)
  ·by_cases hk : JJ ps v rs s rv sy sv k c0 c1 c2 c3 c4 c5 p d g a o now = 1
   ·have hq : EA p d g a o now = true := by
     unfold JJ at hk
     cases hh : EA p d g a o now
     ·rw [hh] at hk; exact absurd (show (4 : Int) = 1 from hk) (by decide)
     ·rfl
    have hb := Tp hq
    rw [decide_eq_true hk]
    refine ⟨⟨hw.app (WR.one (e := 206) (Gu (Hs (by omega)) (Gu (Hs hi) (Gu (Hs hc) (Gu (Hs (by omega)) (Gu (Hs (by omega)) (Gu (Hs (by omega)) (Gu (Hs (by omega)) (Gu (Hs (by omega)) (Gu (Hs (by omega)) (Gu (.bool true) VQ))))))))))) (by simp; omega), ?_⟩, b3⟩
    show (ss ++ [_]).length ≤ _
    simp; omega
   ·rw [decide_eq_false hk]; exact ⟨b1, b3⟩
  ·exact ⟨b1, b2⟩
 ·exact ⟨b1, b2⟩
end Go.Proofs.YtbanfmadialnkaaGreat.Eng
/- half -/
