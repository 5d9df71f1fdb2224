/- Decisions, saved decisions, copies, and what a point answers. -/
import Derived.Test.YtbanfmadialnkaaGreatPA7
namespace Go.Proofs.YtbanfmadialnkaaGreat.Eng
open Go.RowKit
set_option linter.unusedVariables false
set_option linter.unusedSimpArgs false
set_option linter.unusedSectionVars false
set_option maxRecDepth 100000
variable [Sm]
/-- A decision by the rules that hold. -/
def QY (rs idx : LL) : Int := bif idx.any (fun x => decide (gi rs (v0 x) 0 = 0)) then 0 else bif idx.isEmpty then 0 else 1
theorem ZP (xs : LL) : decide (ln xs = 0) = xs.isEmpty := by cases xs <;> simp [ln]; omega
theorem aaE (v : Int) (rs idx : LL) (db : idx.length ≤ 4611686018427387904) (h : ∀ x ∈ idx, dk (v0 x) rs.length = true) : Hr.l0 0 v rs idx = rI (QY rs idx) := by
 refine (Wi (l0 := fun i => Hr.l0 i v rs idx) (n := idx.length) (p := fun i => decide (gi rs (v0 (idx.getD i [])) 0 = 0)) (F := rI 0) (R := rI (bif idx.isEmpty then 0 else 1)) ?_ fun i hi => ?_).trans ?_
 ·rw [Hr.Da, Dj (Nat.le_refl _), ZP]
  cases idx.isEmpty <;> rfl
 ·have e : gi idx (i : Int) 0 = v0 (idx.getD i []) := rfl
  rw [Hr.Da, Di hi, DE hi, DJ (by omega), e, h _ (De hi)]; rfl
 ·rw [RR idx [] fun x => decide (gi rs (v0 x) 0 = 0), cI]; rfl
theorem YJ (v : Int) (rs idx : LL) (db : idx.length ≤ 4611686018427387904) (h : ∀ x ∈ idx, dk (v0 x) rs.length = true ∧ (gi rs (v0 x) 0 = 0 ∨ gi rs (v0 x) 0 = 1)) : IP.c v rs idx = rI (QY rs idx) := by
 have key : ∀ i, i ≤ idx.length → ∀ out : Int, IP.l0 out idx (ln idx) (i : Int) v rs = rI (bif (idx.drop i).any (fun x => decide (gi rs (v0 x) 0 = 0)) then 0 else bif (idx.drop i).isEmpty then out else 1) := by
  refine down idx.length ?_ ?_
  ·intro out
   rw [IP.Da, Dj (Nat.le_refl _), List.drop_length]; rfl
  ·intro i hi ih out
   have e : gi idx (i : Int) 0 = v0 (idx.getD i []) := rfl
   obtain ⟨h1, h2⟩ := h _ (De hi)
   rw [IP.Da, Di hi, DE hi, DJ (by omega), e, h1, Mt hi, List.any_cons, Gw, Gw, cond_true]
   rcases h2 with h2 | h2
   ·rw [h2]; rfl
   ·rw [h2, ih]
    show rI _ = rI _
    rw [show decide ((1 : Int) = 0) = false from rfl, Bool.false_or]
    congr 1
    cases (idx.drop (i + 1)).any _
    ·cases (idx.drop (i + 1)).isEmpty <;> rfl
    ·rfl
 rw [IP.eq]
 exact key 0 (Nat.zero_le _) 0
noncomputable def Fs (l s : LL) (v : Int) (rs : LL) (p d g ac ob now : Int) : Int := bif EA p d g ac ob now then (bif Kb v rs then QY rs (LR l s rs p d g ac ob now) else 0) else 0
theorem Ul (l s rs : LL) (p d g ac ob now : Int) : (LR l s rs p d g ac ob now).length ≤ rs.length := by
 unfold LR
 rw [List.length_map]; exact Nat.le_trans (List.length_filter_le _ _) (by simp)
theorem Um {l s rs : LL} {p d g ac ob now : Int} {x : List U} (h : x ∈ LR l s rs p d g ac ob now) : ∃ i : Nat, i < rs.length ∧ v0 x = (i : Int) := by
 unfold LR at h
 simp only [List.mem_map, List.mem_filter, List.mem_range] at h
 obtain ⟨i, ⟨h1, _⟩, rfl⟩ := h
 exact ⟨i, h1, rfl⟩
theorem TB (l s : LL) (v : Int) (rs : LL) (hl : l.length ≤ 4611686018427387904) (hs : s.length ≤ 4611686018427387904) (hr : Db rs ≤ 1099511627776) (p d g ac ob now : Int) : Hr.c l s v rs p d g ac ob now = rI (Fs l s v rs p d g ac ob now) := by
 have hlen := Dk rs
 have hh := Ul l s rs p d g ac ob now
 rw [Hr.eq, Sa, Vx v rs hr, aaL l s rs v hl hs hr]
 simp only [q0, qb, ql, LN]
 rw [aaE v rs _ (by omega) fun x hx => by obtain ⟨i, h1, h2⟩ := Um hx; rw [h2]; exact DE h1]
 simp only [cI]; rfl
theorem SL (l s : LL) (v : Int) (rs : LL) (hl : l.length ≤ 4611686018427387904) (hs : s.length ≤ 1048576) (hr : Db rs ≤ 1099511627776) (p d g ac ob now : Int) : La.c l s v rs p d g ac ob now = rI (Fs l s v rs p d g ac ob now) := by
 have hlen := Dk rs
 have hh := Ul l s rs p d g ac ob now
 rw [La.eq, Rv, Uu v rs hr, YR Wz l s rs v hl hs hr]
 unfold Fs
 simp only [q0, qb, ql, LN]
 cases EA p d g ac ob now
 ·rfl
 cases hp : Kb v rs
 ·rfl
 rw [cond_true, cond_true, YJ v rs _ (by omega) fun x hx => ?_]
 ·rfl
 ·obtain ⟨i, h1, h2⟩ := Um hx
  rw [h2]
  refine ⟨DE h1, ?_⟩
  unfold Kb at hp
  rw [Bool.and_eq_true] at hp
  have := List.all_eq_true.1 hp.1 _ (De h1 (z := []))
  unfold JO RK at this
  rw [Bool.and_eq_true] at this
  have := En this.1
  show ui (rs.getD i []) 0 = 0 ∨ ui (rs.getD i []) 0 = 1
  omega
/-- How long a decision stays. -/
def stays (dec : Int → Int) (FR lim : Int) : Nat → Int → Int
 | 0, t => t
 | k + 1, t => bif decide (t < lim) then (bif decide (dec (t + 1) = FR) then stays dec FR lim k (t + 1) else t) else t
noncomputable def JR (l s : LL) (v : Int) (rs : LL) (p d g ac ob now Ei : Int) : Int := bif EA p d g ac ob now then (bif Kb v rs then (bif within Ei 0 60 then
 stays (fun t => Fs l s v rs p d g ac ob t) (Fs l s v rs p d g ac ob now) (min (now + Ei) 10000) 61 now else now) else now) else now
theorem VB (l s : LL) (v : Int) (rs : LL) (hl : l.length ≤ 4611686018427387904) (hs : s.length ≤ 4611686018427387904) (hr : Db rs ≤ 1099511627776) (p d g ac ob now Ei FR : Int) (hn : within now 0 10000 = true) (hm : within Ei 0 60 = true) :
  ∀ (k : Nat) (t : Int), now ≤ t → min (now + Ei) 10000 < t + (k : Int) → IV.l0 l s Ei FR t v rs p d g ac ob now = rI (stays (fun t => Fs l s v rs p d g ac ob t) FR (min (now + Ei) 10000) k t)
 | 0, t, h0, h => by
  obtain ⟨h1, h2⟩ := En hn
  obtain ⟨h3, h4⟩ := En hm
  rw [IV.Da, Ij (n := now + Ei) (by omega) (by omega)]
  by_cases hc : t < now + Ei
  ·rw [decide_eq_true hc, decide_eq_false (show ¬ t < 10000 by omega)]; rfl
  ·rw [decide_eq_false hc]; rfl
 | k + 1, t, h0, h => by
  obtain ⟨h1, h2⟩ := En hn
  obtain ⟨h3, h4⟩ := En hm
  rw [IV.Da, Ij (n := now + Ei) (by omega) (by omega)]
  unfold stays
  by_cases hc : t < now + Ei
  ·by_cases hd : t < 10000
   ·rw [decide_eq_true hc, decide_eq_true hd, decide_eq_true (show t < min (now + Ei) 10000 by omega), Ij (n := t + 1) (by omega) (by omega), KT.eq]
    show ((Hr.c l s v rs p d g ac ob (t + 1)).bind _) = _
    rw [TB l s v rs hl hs hr]
    show (bif decide (Fs l s v rs p d g ac ob (t + 1) = FR) then IV.l0 l s Ei FR (t + 1) v rs p d g ac ob now else rI t) = _
    rw [VB l s v rs hl hs hr p d g ac ob now Ei FR hn hm k (t + 1) (by omega) (by omega), cI]; rfl
   ·rw [decide_eq_true hc, decide_eq_false hd, decide_eq_false (show ¬ t < min (now + Ei) 10000 by omega)]; rfl
  ·rw [decide_eq_false hc, decide_eq_false (show ¬ t < min (now + Ei) 10000 by omega)]; rfl
theorem Uy (l s : LL) (v : Int) (rs : LL) (hl : l.length ≤ 4611686018427387904) (hs : s.length ≤ 1048576) (hr : Db rs ≤ 1099511627776) (p d g ac ob now Ei FR : Int) (hn : within now 0 10000 = true) (hm : within Ei 0 60 = true) :
  ∀ (k : Nat) (t : Int), now ≤ t → min (now + Ei) 10000 < t + (k : Int) → IJ.l0 l s Ei t FR v rs p d g ac ob now = rI (stays (fun t => Fs l s v rs p d g ac ob t) FR (min (now + Ei) 10000) k t)
 | 0, t, h0, h => by
  obtain ⟨h1, h2⟩ := En hn
  obtain ⟨h3, h4⟩ := En hm
  rw [IJ.Da, Ij (n := now + Ei) (by omega) (by omega), UI, decide_eq_false (show ¬ t < min (now + Ei) 10000 by omega)]; rfl
 | k + 1, t, h0, h => by
  obtain ⟨h1, h2⟩ := En hn
  obtain ⟨h3, h4⟩ := En hm
  rw [IJ.Da, Ij (n := now + Ei) (by omega) (by omega), UI]
  unfold stays
  by_cases hc : t < min (now + Ei) 10000
  ·rw [decide_eq_true hc, Ij (n := t + 1) (by omega) (by omega), KZ.eq]
   show ((La.c l s v rs p d g ac ob (t + 1)).bind _) = _
   rw [SL l s v rs hl hs hr]
   show (bif decide (Fs l s v rs p d g ac ob (t + 1) = FR) then IJ.l0 l s Ei (t + 1) FR v rs p d g ac ob now else rI t) = _
   rw [Uy l s v rs hl hs hr p d g ac ob now Ei FR hn hm k (t + 1) (by omega) (by omega), cI]; rfl
  ·rw [decide_eq_false hc]; rfl
theorem RT {p d g ac ob now : Int} (h : EA p d g ac ob now = true) : within now 0 10000 = true := by
 unfold EA at h
 simp only [Bool.and_eq_true] at h
 exact h.2.2.2.2.2
theorem aa5 (l s : LL) (v : Int) (rs : LL) (hl : l.length ≤ 4611686018427387904) (hs : s.length ≤ 4611686018427387904) (hr : Db rs ≤ 1099511627776) (p d g ac ob now Ei : Int) : IV.c l s v rs p d g ac ob now Ei = rI (JR l s v rs p d g ac ob now Ei) := by
 rw [IV.eq, Sa, Vx v rs hr, IU, TB l s v rs hl hs hr]
 unfold JR
 simp only [q0, qb, qi, LN]
 cases hq : EA p d g ac ob now
 ·rfl
 cases Kb v rs
 ·rfl
 cases hm : within Ei 0 60
 ·rfl
 have h1 := En (RT hq)
 have h2 := En hm
 exact VB l s v rs hl hs hr p d g ac ob now Ei _ (RT hq) hm 61 now (Int.le_refl _) (by omega)
theorem Zj (l s : LL) (v : Int) (rs : LL) (hl : l.length ≤ 4611686018427387904) (hs : s.length ≤ 1048576) (hr : Db rs ≤ 1099511627776) (p d g ac ob now Ei : Int) : IJ.c l s v rs p d g ac ob now Ei = rI (JR l s v rs p d g ac ob now Ei) := by
 rw [IJ.eq, Rv, Uu v rs hr, Hv, SL l s v rs hl hs hr]
 unfold JR
 simp only [q0, qb, qi, LN]
 cases hq : EA p d g ac ob now
 ·rfl
 cases Kb v rs
 ·rfl
 cases hm : within Ei 0 60
 ·rfl
 have h1 := En (RT hq)
 have h2 := En hm
 exact Uy l s v rs hl hs hr p d g ac ob now Ei _ (RT hq) hm 61 now (Int.le_refl _) (by omega)
/-! ### Saved decisions -/
def PZ (x : List U) : List U := [U.int (ui x 0), U.int (ui x 1), U.int (ui x 2), U.int (ui x 3), U.int (ui x 4), U.int (ui x 5), U.int (ui x 6), U.int (ui x 7)]
def other (p d g a o : Int) (x : List U) : Bool := !Nc (ui x 0) (ui x 1) (ui x 2) (ui x 3) (ui x 4) p d g a o
def Ms (xs : LL) : LL := bif decide (ln xs > 8) then xs.drop 1 else xs
def MK (xs : LL) (p d g a o n c u : Int) : LL := Ms ((xs.filter (other p d g a o)).map PZ ++ [[U.int p, U.int d, U.int g, U.int a, U.int o, U.int n, U.int c, U.int u]])
theorem TZ (xs : LL) : (bif decide (ln xs > 8) then Cu (decide ((0 : Int) ≤ 1 ∧ (1 : Int) ≤ ln xs ∧ ln xs ≤ ln xs)) (rL (List.take (ln xs - 1).toNat (List.drop (Int.toNat 1) xs))) else rL xs) = rL (Ms xs) := by
 unfold Ms
 have hl : ln xs = (xs.length : Int) := rfl
 by_cases h : ln xs > 8
 ·rw [decide_eq_true h, decide_eq_true ⟨by omega, by omega, Int.le_refl _⟩]
  show rL (List.take (ln xs - 1).toNat (xs.drop 1)) = rL (xs.drop 1)
  rw [List.take_of_length_le (by rw [List.length_drop]; omega)]
 ·rw [decide_eq_false h]; rfl
theorem aaT (xs : LL) (hx : xs.length ≤ 1099511627776) (p d g a o n c u : Int) : IC.c xs p d g a o n c u = rL (MK xs p d g a o n c u) := by
 rw [IC.eq]
 refine SH (l0 := fun i acc => IC.l0 xs i p d g a o n c u acc) (xs := xs) (q := other p d g a o) (f := PZ) (R := fun acc => rL (Ms (acc ++ [[U.int p, U.int d, U.int g, U.int a, U.int o, U.int n, U.int c, U.int u]]))) (fun acc ha => ?_) fun i hi acc ha => ?_
 ·rw [IC.Da, Dj (Nat.le_refl _), cond_false, Dq (by simp; omega) (by simp; omega), Gw]
  exact TZ _
 ·rw [IC.Da, Di hi, DE hi, DJ (by omega), VA, Dq (by simp; omega) (by simp; omega)]; rfl
theorem YZ (xs : LL) (hx : xs.length ≤ 1099511627776) (p d g a o n c u : Int) : Iv.c xs p d g a o n c u = rL (MK xs p d g a o n c u) := by
 rw [Iv.eq]
 refine SH (l0 := fun i acc => Iv.l0 xs _ i p d g a o n c u acc) (xs := xs) (q := other p d g a o) (f := PZ) (R := fun acc => rL (Ms (acc ++ [[U.int p, U.int d, U.int g, U.int a, U.int o, U.int n, U.int c, U.int u]]))) (fun acc ha => ?_) fun i hi acc ha => ?_
 ·rw [Iv.Da, Dj (Nat.le_refl _), cond_false, Dq (by simp; omega) (by simp; omega), Gw]
  exact TZ _
 ·rw [Iv.Da, Di hi, DE hi, DJ (by omega), Uw, Dq (by simp; omega) (by simp; omega)]; rfl
/-! ### Copies -/
def JK : Nat → LL → LL
 | 0, _ => []
 | n + 1, xs => xs.map fun x => [U.int (ui x 0), U.int (ui x 1), U.int (ui x 2), U.lst (JK n (ul x 3))]
theorem Vq : ∀ (n : Nat) (o a b : Int) (xs : LL), Db xs < n → n ≤ 1099511627777 → Ii.c o a b xs = some ⟨[[.int o, .int a, .int b, .lst (JK n xs)]], []⟩
 | 0, o, a, b, xs, h, _ => by omega
 | n + 1, o, a, b, xs, h, hn => by
  have hl := Dk xs
  rw [Ii.eq]
  refine IH (l0 := fun i acc => Ii.l0 i o a b xs 0 0 0 o a b acc) (xs := xs) (f := fun x => [U.int (ui x 0), U.int (ui x 1), U.int (ui x 2), U.lst (JK n (ul x 3))]) (R := fun acc => some ⟨[[.int o, .int a, .int b, .lst acc]], []⟩) (fun acc ha => ?_) fun i hi acc ha => ?_
  ·rw [Ii.Da, Dj (Nat.le_refl _)]; rfl
  ·have := sub_lt hi 3
   have hs := Vq n (ui (xs.getD i []) 0) (ui (xs.getD i []) 1) (ui (xs.getD i []) 2) (ul (xs.getD i []) 3) (by omega) (by omega)
   rw [Ii.Da, Di hi, DE hi, DJ (by omega)]
   show ((Ii.c (ui (xs.getD i []) 0) (ui (xs.getD i []) 1) (ui (xs.getD i []) 2) (ul (xs.getD i []) 3)).bind _) = _
   rw [hs]
   show Cu (room (acc.length + 1) 48) _ = _
   rw [Dq (by omega) (by omega)]; rfl
theorem Up : ∀ (n : Nat) (o a b : Int) (xs : LL), Db xs < n → n ≤ 1099511627777 → Hz.c o a b xs = some ⟨[[.int o, .int a, .int b, .lst (JK n xs)]], []⟩
 | 0, o, a, b, xs, h, _ => by omega
 | n + 1, o, a, b, xs, h, hn => by
  have hl := Dk xs
  rw [Hz.eq]
  refine IH (l0 := fun i acc => Hz.l0 xs _ i 0 0 0 o a b acc) (xs := xs) (f := fun x => [U.int (ui x 0), U.int (ui x 1), U.int (ui x 2), U.lst (JK n (ul x 3))]) (R := fun acc => some ⟨[[.int o, .int a, .int b, .lst acc]], []⟩) (fun acc ha => ?_) fun i hi acc ha => ?_
  ·rw [Hz.Da, Dj (Nat.le_refl _)]; rfl
  ·have := sub_lt hi 3
   have hs := Up n (ui (xs.getD i []) 0) (ui (xs.getD i []) 1) (ui (xs.getD i []) 2) (ul (xs.getD i []) 3) (by omega) (by omega)
   rw [Hz.Da, Di hi, DE hi, DJ (by omega)]
   show ((Hz.c (ui (xs.getD i []) 0) (ui (xs.getD i []) 1) (ui (xs.getD i []) 2) (ul (xs.getD i []) 3)).bind _) = _
   rw [hs]
   show Cu (room (acc.length + 1) 48) _ = _
   rw [Dq (by omega) (by omega)]; rfl
def EM (xs : LL) : LL := xs.map fun x => [U.int (ui x 0), U.int (ui x 1), U.int (ui x 2), U.int (ui x 3), U.int (ui x 4), U.int (ui x 5), U.lst (JK (Db xs) (ul x 6))]
theorem aaA (v : Int) (xs : LL) (h : Db xs ≤ 1099511627776) : JB.c v xs = some ⟨[[.int v, .lst (EM xs)]], []⟩ := by
 have hl := Dk xs
 rw [JB.eq]
 refine IH (l0 := fun i acc => JB.l0 i v xs 0 v acc) (xs := xs) (f := fun x => [U.int (ui x 0), U.int (ui x 1), U.int (ui x 2), U.int (ui x 3), U.int (ui x 4), U.int (ui x 5), U.lst (JK (Db xs) (ul x 6))]) (R := fun acc => some ⟨[[.int v, .lst acc]], []⟩) (fun acc ha => ?_) fun i hi acc ha => ?_
 ·rw [JB.Da, Dj (Nat.le_refl _)]; rfl
 ·have := sub_lt hi 6
  have hs := Vq (Db xs) (ui (xs.getD i []) 3) (ui (xs.getD i []) 4) (ui (xs.getD i []) 5) (ul (xs.getD i []) 6) this (by omega)
  rw [JB.Da, Di hi, DE hi, DJ (by omega)]
  show ((Ii.c (ui (xs.getD i []) 3) (ui (xs.getD i []) 4) (ui (xs.getD i []) 5) (ul (xs.getD i []) 6)).bind _) = _
  rw [hs]
  show Cu (room (acc.length + 1) 72) _ = _
  rw [Dq (by omega) (by omega)]; rfl
theorem YE (v : Int) (xs : LL) (h : Db xs ≤ 1099511627776) : Ox.c v xs = some ⟨[[.int v, .lst (EM xs)]], []⟩ := by
 have hl := Dk xs
 have : Jh.c xs = rL (EM xs) := by
  rw [Jh.eq]
  refine IH (l0 := fun i acc => Jh.l0 xs _ i acc) (xs := xs) (f := fun x => [U.int (ui x 0), U.int (ui x 1), U.int (ui x 2), U.int (ui x 3), U.int (ui x 4), U.int (ui x 5), U.lst (JK (Db xs) (ul x 6))]) (R := fun acc => rL acc) (fun acc ha => ?_) fun i hi acc ha => ?_
  ·rw [Jh.Da, Dj (Nat.le_refl _)]; rfl
  ·have := sub_lt hi 6
   have hs := Up (Db xs) (ui (xs.getD i []) 3) (ui (xs.getD i []) 4) (ui (xs.getD i []) 5) (ul (xs.getD i []) 6) this (by omega)
   rw [Jh.Da, Di hi, DE hi, DJ (by omega)]
   show ((Hz.c (ui (xs.getD i []) 3) (ui (xs.getD i []) 4) (ui (xs.getD i []) 5) (ul (xs.getD i []) 6)).bind _) = _
   rw [hs]
   show Cu (room (acc.length + 1) 72) _ = _
   rw [Dq (by omega) (by omega)]; rfl
 rw [Ox.eq, this]; rfl
theorem Vr (n a : Int) (ps : LL) (v : Int) (rs : LL) (hp : ps.length ≤ 1099511627776) (hr : Db rs ≤ 1099511627776) : Nk.c n a ps v rs = some ⟨[[.int n, .int a, .lst ps, .int v, .lst (EM rs)]], []⟩ := by
 rw [Nk.eq, Dq (by omega) (by omega), aaA v rs hr]; rfl
theorem Uq (n a : Int) (ps : LL) (v : Int) (rs : LL) (hp : ps.length ≤ 1099511627776) (hr : Db rs ≤ 1099511627776) : MG.c n a ps v rs = some ⟨[[.int n, .int a, .lst ps, .int v, .lst (EM rs)]], []⟩ := by
 rw [MG.eq, Dq (by omega) (by omega), YE v rs hr]; rfl
theorem Vs (s : LL) (h : s.length ≤ 1099511627776) : Nl.c s = rL s := by rw [Nl.eq, Dq (by omega) (by omega)]; rfl
theorem Ur (s : LL) (h : s.length ≤ 1099511627776) : MH.c s = rL s := by rw [MH.eq, Dq (by omega) (by omega)]; rfl
theorem TA (i n a : Int) (ps : LL) (v : Int) (rs s rv : LL) (sy : Int) (sv : LL) (hp : ps.length ≤ 1099511627776) (hr : Db rs ≤ 1099511627776) (hs : s.length ≤ 1099511627776) (hv : rv.length ≤ 1099511627776) (hw : sv.length ≤ 1099511627776) :
  KU.c i n a ps v rs s rv sy sv = some ⟨[[.int i, .int n, .int a, .lst ps, .int v, .lst (EM rs), .lst s, .lst rv, .int sy, .lst sv]], []⟩ := by
 rw [KU.eq, Vr n a ps v rs hp hr, Vs s hs, Dq (by omega) (by omega), Dq (by omega) (by omega)]; rfl
theorem SK (i n a : Int) (ps : LL) (v : Int) (rs s rv : LL) (sy : Int) (sv : LL) (hp : ps.length ≤ 1099511627776) (hr : Db rs ≤ 1099511627776) (hs : s.length ≤ 1099511627776) (hv : rv.length ≤ 1099511627776) (hw : sv.length ≤ 1099511627776) :
  KN.c i n a ps v rs s rv sy sv = some ⟨[[.int i, .int n, .int a, .lst ps, .int v, .lst (EM rs), .lst s, .lst rv, .int sy, .lst sv]], []⟩ := by
 rw [KN.eq, Uq n a ps v rs hp hr, Ur s hs, Dq (by omega) (by omega), Dq (by omega) (by omega)]; rfl
end Go.Proofs.YtbanfmadialnkaaGreat.Eng
/- half -/
