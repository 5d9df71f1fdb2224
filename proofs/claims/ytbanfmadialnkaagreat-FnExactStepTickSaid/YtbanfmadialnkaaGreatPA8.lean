/- Decisions, saved decisions, copies, and what a point answers. -/
import Derived.Test.YtbanfmadialnkaaGreatPA7
namespace Go.Proofs.YtbanfmadialnkaaGreat.Eng
open Go.RowKit
set_option linter.unusedVariables false
set_option linter.unusedSimpArgs false
set_option linter.unusedSectionVars false
set_option maxRecDepth 100000
variable [Sm]
/-- A decision by the rules that hold. -/
def Se (rs idx : LL) : Int := bif idx.any (fun x => decide (gi rs (v0 x) 0 = 0)) then 0 else bif idx.isEmpty then 0 else 1
theorem Zv (xs : LL) : decide (ln xs = 0) = xs.isEmpty := by cases xs <;> simp [ln]; omega
theorem aat (v : Int) (rs idx : LL) (db : idx.length ≤ 4611686018427387904) (h : ∀ x ∈ idx, dk (v0 x) rs.length = true) : Ho.l0 0 v rs idx = rI (Se rs idx) := by
 refine (VX (l0 := fun i => Ho.l0 i v rs idx) (n := idx.length) (p := fun i => decide (gi rs (v0 (idx.getD i [])) 0 = 0)) (F := rI 0) (R := rI (bif idx.isEmpty then 0 else 1)) ?_ fun i hi => ?_).trans ?_
 ·rw [Ho.Da, Dj (Nat.le_refl _), Zv]
  cases idx.isEmpty <;> rfl
 ·have e : gi idx (i : Int) 0 = v0 (idx.getD i []) := rfl
  rw [Ho.Da, Di hi, Dw hi, DG (by omega), e, h _ (Dg hi)]; rfl
 ·rw [Rw idx [] fun x => decide (gi rs (v0 x) 0 = 0), cI]; rfl
theorem Yo (v : Int) (rs idx : LL) (db : idx.length ≤ 4611686018427387904) (h : ∀ x ∈ idx, dk (v0 x) rs.length = true ∧ (gi rs (v0 x) 0 = 0 ∨ gi rs (v0 x) 0 = 1)) : II.c v rs idx = rI (Se rs idx) := by
 have key : ∀ i, i ≤ idx.length → ∀ out : Int, II.l0 out idx (ln idx) (i : Int) v rs = rI (bif (idx.drop i).any (fun x => decide (gi rs (v0 x) 0 = 0)) then 0 else bif (idx.drop i).isEmpty then out else 1) := by
  refine down idx.length ?_ ?_
  ·intro out
   rw [II.Da, Dj (Nat.le_refl _), List.drop_length]; rfl
  ·intro i hi ih out
   have e : gi idx (i : Int) 0 = v0 (idx.getD i []) := rfl
   obtain ⟨h1, h2⟩ := h _ (Dg hi)
   rw [II.Da, Di hi, Dw hi, DG (by omega), e, h1, LZ hi, List.any_cons, Gt, Gt, cond_true]
   rcases h2 with h2 | h2
   ·rw [h2]; rfl
   ·rw [h2, ih]
    show rI _ = rI _
    rw [show decide ((1 : Int) = 0) = false from rfl, Bool.false_or]
    congr 1
    cases (idx.drop (i + 1)).any _
    ·cases (idx.drop (i + 1)).isEmpty <;> rfl
    ·rfl
 rw [II.eq]
 exact key 0 (Nat.zero_le _) 0
noncomputable def Ii (l s : LL) (v : Int) (rs : LL) (p d g ac ob now : Int) : Int := bif Iq p d g ac ob now then (bif KD v rs then Se rs (Ly l s rs p d g ac ob now) else 0) else 0
theorem Ua (l s rs : LL) (p d g ac ob now : Int) : (Ly l s rs p d g ac ob now).length ≤ rs.length := by
 unfold Ly
 rw [List.length_map]; exact Nat.le_trans (List.length_filter_le _ _) (by simp)
theorem Ub {l s rs : LL} {p d g ac ob now : Int} {x : List U} (h : x ∈ Ly l s rs p d g ac ob now) : ∃ i : Nat, i < rs.length ∧ v0 x = (i : Int) := by
 unfold Ly at h
 simp only [List.mem_map, List.mem_filter, List.mem_range] at h
 obtain ⟨i, ⟨h1, _⟩, rfl⟩ := h
 exact ⟨i, h1, rfl⟩
theorem Tr (l s : LL) (v : Int) (rs : LL) (hl : l.length ≤ 4611686018427387904) (hs : s.length ≤ 4611686018427387904) (hr : Db rs ≤ 1099511627776) (p d g ac ob now : Int) : Ho.c l s v rs p d g ac ob now = rI (Ii l s v rs p d g ac ob now) := by
 have hlen := Dk rs
 have hh := Ua l s rs p d g ac ob now
 rw [Ho.eq, Tu, Vp v rs hr, aaB l s rs v hl hs hr]
 simp only [q0, qb, ql, Lu]
 rw [aat v rs _ (by omega) fun x hx => by obtain ⟨i, h1, h2⟩ := Ub hx; rw [h2]; exact Dw h1]
 simp only [cI]; rfl
theorem Sr (l s : LL) (v : Int) (rs : LL) (hl : l.length ≤ 4611686018427387904) (hs : s.length ≤ 1048576) (hr : Db rs ≤ 1099511627776) (p d g ac ob now : Int) : KN.c l s v rs p d g ac ob now = rI (Ii l s v rs p d g ac ob now) := by
 have hlen := Dk rs
 have hh := Ua l s rs p d g ac ob now
 rw [KN.eq, Sv, Uk v rs hr, Yx Wn l s rs v hl hs hr]
 unfold Ii
 simp only [q0, qb, ql, Lu]
 cases Iq p d g ac ob now
 ·rfl
 cases hp : KD v rs
 ·rfl
 rw [cond_true, cond_true, Yo v rs _ (by omega) fun x hx => ?_]
 ·rfl
 ·obtain ⟨i, h1, h2⟩ := Ub hx
  rw [h2]
  refine ⟨Dw h1, ?_⟩
  unfold KD at hp
  rw [Bool.and_eq_true] at hp
  have := List.all_eq_true.1 hp.1 _ (Dg h1 (z := []))
  unfold JO Rp at this
  rw [Bool.and_eq_true] at this
  have := EB this.1
  show ui (rs.getD i []) 0 = 0 ∨ ui (rs.getD i []) 0 = 1
  omega
/-- How long a decision stays. -/
def stays (dec : Int → Int) (IV lim : Int) : Nat → Int → Int
 | 0, t => t
 | k + 1, t => bif decide (t < lim) then (bif decide (dec (t + 1) = IV) then stays dec IV lim k (t + 1) else t) else t
noncomputable def KI (l s : LL) (v : Int) (rs : LL) (p d g ac ob now Eg : Int) : Int := bif Iq p d g ac ob now then (bif KD v rs then (bif within Eg 0 60 then
 stays (fun t => Ii l s v rs p d g ac ob t) (Ii l s v rs p d g ac ob now) (min (now + Eg) 10000) 61 now else now) else now) else now
theorem Vt (l s : LL) (v : Int) (rs : LL) (hl : l.length ≤ 4611686018427387904) (hs : s.length ≤ 4611686018427387904) (hr : Db rs ≤ 1099511627776) (p d g ac ob now Eg IV : Int) (hn : within now 0 10000 = true) (hm : within Eg 0 60 = true) :
  ∀ (k : Nat) (t : Int), now ≤ t → min (now + Eg) 10000 < t + (k : Int) → IS.l0 l s Eg IV t v rs p d g ac ob now = rI (stays (fun t => Ii l s v rs p d g ac ob t) IV (min (now + Eg) 10000) k t)
 | 0, t, h0, h => by
  obtain ⟨h1, h2⟩ := EB hn
  obtain ⟨h3, h4⟩ := EB hm
  rw [IS.Da, Ix (n := now + Eg) (by omega) (by omega)]
  by_cases hc : t < now + Eg
  ·rw [decide_eq_true hc, decide_eq_false (show ¬ t < 10000 by omega)]; rfl
  ·rw [decide_eq_false hc]; rfl
 | k + 1, t, h0, h => by
  obtain ⟨h1, h2⟩ := EB hn
  obtain ⟨h3, h4⟩ := EB hm
  rw [IS.Da, Ix (n := now + Eg) (by omega) (by omega)]
  unfold stays
  by_cases hc : t < now + Eg
  ·by_cases hd : t < 10000
   ·rw [decide_eq_true hc, decide_eq_true hd, decide_eq_true (show t < min (now + Eg) 10000 by omega), Ix (n := t + 1) (by omega) (by omega), KG.eq]
    show ((Ho.c l s v rs p d g ac ob (t + 1)).bind _) = _
    rw [Tr l s v rs hl hs hr]
    show (bif decide (Ii l s v rs p d g ac ob (t + 1) = IV) then IS.l0 l s Eg IV (t + 1) v rs p d g ac ob now else rI t) = _
    rw [Vt l s v rs hl hs hr p d g ac ob now Eg IV hn hm k (t + 1) (by omega) (by omega), cI]; rfl
   ·rw [decide_eq_true hc, decide_eq_false hd, decide_eq_false (show ¬ t < min (now + Eg) 10000 by omega)]; rfl
  ·rw [decide_eq_false hc, decide_eq_false (show ¬ t < min (now + Eg) 10000 by omega)]; rfl
theorem Uo (l s : LL) (v : Int) (rs : LL) (hl : l.length ≤ 4611686018427387904) (hs : s.length ≤ 1048576) (hr : Db rs ≤ 1099511627776) (p d g ac ob now Eg IV : Int) (hn : within now 0 10000 = true) (hm : within Eg 0 60 = true) :
  ∀ (k : Nat) (t : Int), now ≤ t → min (now + Eg) 10000 < t + (k : Int) → ID.l0 l s Eg t IV v rs p d g ac ob now = rI (stays (fun t => Ii l s v rs p d g ac ob t) IV (min (now + Eg) 10000) k t)
 | 0, t, h0, h => by
  obtain ⟨h1, h2⟩ := EB hn
  obtain ⟨h3, h4⟩ := EB hm
  rw [ID.Da, Ix (n := now + Eg) (by omega) (by omega), Uy, decide_eq_false (show ¬ t < min (now + Eg) 10000 by omega)]; rfl
 | k + 1, t, h0, h => by
  obtain ⟨h1, h2⟩ := EB hn
  obtain ⟨h3, h4⟩ := EB hm
  rw [ID.Da, Ix (n := now + Eg) (by omega) (by omega), Uy]
  unfold stays
  by_cases hc : t < min (now + Eg) 10000
  ·rw [decide_eq_true hc, Ix (n := t + 1) (by omega) (by omega), KM.eq]
   show ((KN.c l s v rs p d g ac ob (t + 1)).bind _) = _
   rw [Sr l s v rs hl hs hr]
   show (bif decide (Ii l s v rs p d g ac ob (t + 1) = IV) then ID.l0 l s Eg (t + 1) IV v rs p d g ac ob now else rI t) = _
   rw [Uo l s v rs hl hs hr p d g ac ob now Eg IV hn hm k (t + 1) (by omega) (by omega), cI]; rfl
  ·rw [decide_eq_false hc]; rfl
theorem Rx {p d g ac ob now : Int} (h : Iq p d g ac ob now = true) : within now 0 10000 = true := by
 unfold Iq at h
 simp only [Bool.and_eq_true] at h
 exact h.2.2.2.2.2
theorem aaW (l s : LL) (v : Int) (rs : LL) (hl : l.length ≤ 4611686018427387904) (hs : s.length ≤ 4611686018427387904) (hr : Db rs ≤ 1099511627776) (p d g ac ob now Eg : Int) : IS.c l s v rs p d g ac ob now Eg = rI (KI l s v rs p d g ac ob now Eg) := by
 rw [IS.eq, Tu, Vp v rs hr, IP, Tr l s v rs hl hs hr]
 unfold KI
 simp only [q0, qb, qi, Lu]
 cases hq : Iq p d g ac ob now
 ·rfl
 cases KD v rs
 ·rfl
 cases hm : within Eg 0 60
 ·rfl
 have h1 := EB (Rx hq)
 have h2 := EB hm
 exact Vt l s v rs hl hs hr p d g ac ob now Eg _ (Rx hq) hm 61 now (Int.le_refl _) (by omega)
theorem YQ (l s : LL) (v : Int) (rs : LL) (hl : l.length ≤ 4611686018427387904) (hs : s.length ≤ 1048576) (hr : Db rs ≤ 1099511627776) (p d g ac ob now Eg : Int) : ID.c l s v rs p d g ac ob now Eg = rI (KI l s v rs p d g ac ob now Eg) := by
 rw [ID.eq, Sv, Uk v rs hr, Hr, Sr l s v rs hl hs hr]
 unfold KI
 simp only [q0, qb, qi, Lu]
 cases hq : Iq p d g ac ob now
 ·rfl
 cases KD v rs
 ·rfl
 cases hm : within Eg 0 60
 ·rfl
 have h1 := EB (Rx hq)
 have h2 := EB hm
 exact Uo l s v rs hl hs hr p d g ac ob now Eg _ (Rx hq) hm 61 now (Int.le_refl _) (by omega)
/-! ### Saved decisions -/
def To (x : List U) : List U := [U.int (ui x 0), U.int (ui x 1), U.int (ui x 2), U.int (ui x 3), U.int (ui x 4), U.int (ui x 5), U.int (ui x 6), U.int (ui x 7)]
def other (p d g a o : Int) (x : List U) : Bool := !MK (ui x 0) (ui x 1) (ui x 2) (ui x 3) (ui x 4) p d g a o
def Nx (xs : LL) : LL := bif decide (ln xs > 8) then xs.drop 1 else xs
def SG (xs : LL) (p d g a o n c u : Int) : LL := Nx ((xs.filter (other p d g a o)).map To ++ [[U.int p, U.int d, U.int g, U.int a, U.int o, U.int n, U.int c, U.int u]])
theorem TO (xs : LL) : (bif decide (ln xs > 8) then Cu (decide ((0 : Int) ≤ 1 ∧ (1 : Int) ≤ ln xs ∧ ln xs ≤ ln xs)) (rL (List.take (ln xs - 1).toNat (List.drop (Int.toNat 1) xs))) else rL xs) = rL (Nx xs) := by
 unfold Nx
 have hl : ln xs = (xs.length : Int) := rfl
 by_cases h : ln xs > 8
 ·rw [decide_eq_true h, decide_eq_true ⟨by omega, by omega, Int.le_refl _⟩]
  show rL (List.take (ln xs - 1).toNat (xs.drop 1)) = rL (xs.drop 1)
  rw [List.take_of_length_le (by rw [List.length_drop]; omega)]
 ·rw [decide_eq_false h]; rfl
theorem aaK (xs : LL) (hx : xs.length ≤ 1099511627776) (p d g a o n c u : Int) : It.c xs p d g a o n c u = rL (SG xs p d g a o n c u) := by
 rw [It.eq]
 refine Sl (l0 := fun i acc => It.l0 xs i p d g a o n c u acc) (xs := xs) (q := other p d g a o) (f := To) (R := fun acc => rL (Nx (acc ++ [[U.int p, U.int d, U.int g, U.int a, U.int o, U.int n, U.int c, U.int u]]))) (fun acc ha => ?_) fun i hi acc ha => ?_
 ·rw [It.Da, Dj (Nat.le_refl _), cond_false, Dr (by simp; omega) (by simp; omega), Gt]
  exact TO _
 ·rw [It.Da, Di hi, Dw hi, DG (by omega), Vs, Dr (by simp; omega) (by simp; omega)]; rfl
theorem YG (xs : LL) (hx : xs.length ≤ 1099511627776) (p d g a o n c u : Int) : Io.c xs p d g a o n c u = rL (SG xs p d g a o n c u) := by
 rw [Io.eq]
 refine Sl (l0 := fun i acc => Io.l0 xs _ i p d g a o n c u acc) (xs := xs) (q := other p d g a o) (f := To) (R := fun acc => rL (Nx (acc ++ [[U.int p, U.int d, U.int g, U.int a, U.int o, U.int n, U.int c, U.int u]]))) (fun acc ha => ?_) fun i hi acc ha => ?_
 ·rw [Io.Da, Dj (Nat.le_refl _), cond_false, Dr (by simp; omega) (by simp; omega), Gt]
  exact TO _
 ·rw [Io.Da, Di hi, Dw hi, DG (by omega), Um, Dr (by simp; omega) (by simp; omega)]; rfl
/-! ### Copies -/
def JF : Nat → LL → LL
 | 0, _ => []
 | n + 1, xs => xs.map fun x => [U.int (ui x 0), U.int (ui x 1), U.int (ui x 2), U.lst (JF n (ul x 3))]
theorem Vh : ∀ (n : Nat) (o a b : Int) (xs : LL), Db xs < n → n ≤ 1099511627777 → Ic.c o a b xs = some ⟨[[.int o, .int a, .int b, .lst (JF n xs)]], []⟩
 | 0, o, a, b, xs, h, _ => by omega
 | n + 1, o, a, b, xs, h, hn => by
  have hl := Dk xs
  rw [Ic.eq]
  refine Iz (l0 := fun i acc => Ic.l0 i o a b xs 0 0 0 o a b acc) (xs := xs) (f := fun x => [U.int (ui x 0), U.int (ui x 1), U.int (ui x 2), U.lst (JF n (ul x 3))]) (R := fun acc => some ⟨[[.int o, .int a, .int b, .lst acc]], []⟩) (fun acc ha => ?_) fun i hi acc ha => ?_
  ·rw [Ic.Da, Dj (Nat.le_refl _)]; rfl
  ·have := sub_lt hi 3
   have hs := Vh n (ui (xs.getD i []) 0) (ui (xs.getD i []) 1) (ui (xs.getD i []) 2) (ul (xs.getD i []) 3) (by omega) (by omega)
   rw [Ic.Da, Di hi, Dw hi, DG (by omega)]
   show ((Ic.c (ui (xs.getD i []) 0) (ui (xs.getD i []) 1) (ui (xs.getD i []) 2) (ul (xs.getD i []) 3)).bind _) = _
   rw [hs]
   show Cu (room (acc.length + 1) 48) _ = _
   rw [Dr (by omega) (by omega)]; rfl
theorem Ue : ∀ (n : Nat) (o a b : Int) (xs : LL), Db xs < n → n ≤ 1099511627777 → Hv.c o a b xs = some ⟨[[.int o, .int a, .int b, .lst (JF n xs)]], []⟩
 | 0, o, a, b, xs, h, _ => by omega
 | n + 1, o, a, b, xs, h, hn => by
  have hl := Dk xs
  rw [Hv.eq]
  refine Iz (l0 := fun i acc => Hv.l0 xs _ i 0 0 0 o a b acc) (xs := xs) (f := fun x => [U.int (ui x 0), U.int (ui x 1), U.int (ui x 2), U.lst (JF n (ul x 3))]) (R := fun acc => some ⟨[[.int o, .int a, .int b, .lst acc]], []⟩) (fun acc ha => ?_) fun i hi acc ha => ?_
  ·rw [Hv.Da, Dj (Nat.le_refl _)]; rfl
  ·have := sub_lt hi 3
   have hs := Ue n (ui (xs.getD i []) 0) (ui (xs.getD i []) 1) (ui (xs.getD i []) 2) (ul (xs.getD i []) 3) (by omega) (by omega)
   rw [Hv.Da, Di hi, Dw hi, DG (by omega)]
   show ((Hv.c (ui (xs.getD i []) 0) (ui (xs.getD i []) 1) (ui (xs.getD i []) 2) (ul (xs.getD i []) 3)).bind _) = _
   rw [hs]
   show Cu (room (acc.length + 1) 48) _ = _
   rw [Dr (by omega) (by omega)]; rfl
def FA (xs : LL) : LL := xs.map fun x => [U.int (ui x 0), U.int (ui x 1), U.int (ui x 2), U.int (ui x 3), U.int (ui x 4), U.int (ui x 5), U.lst (JF (Db xs) (ul x 6))]
theorem aap (v : Int) (xs : LL) (h : Db xs ≤ 1099511627776) : Jv.c v xs = some ⟨[[.int v, .lst (FA xs)]], []⟩ := by
 have hl := Dk xs
 rw [Jv.eq]
 refine Iz (l0 := fun i acc => Jv.l0 i v xs 0 v acc) (xs := xs) (f := fun x => [U.int (ui x 0), U.int (ui x 1), U.int (ui x 2), U.int (ui x 3), U.int (ui x 4), U.int (ui x 5), U.lst (JF (Db xs) (ul x 6))]) (R := fun acc => some ⟨[[.int v, .lst acc]], []⟩) (fun acc ha => ?_) fun i hi acc ha => ?_
 ·rw [Jv.Da, Dj (Nat.le_refl _)]; rfl
 ·have := sub_lt hi 6
  have hs := Vh (Db xs) (ui (xs.getD i []) 3) (ui (xs.getD i []) 4) (ui (xs.getD i []) 5) (ul (xs.getD i []) 6) this (by omega)
  rw [Jv.Da, Di hi, Dw hi, DG (by omega)]
  show ((Ic.c (ui (xs.getD i []) 3) (ui (xs.getD i []) 4) (ui (xs.getD i []) 5) (ul (xs.getD i []) 6)).bind _) = _
  rw [hs]
  show Cu (room (acc.length + 1) 72) _ = _
  rw [Dr (by omega) (by omega)]; rfl
theorem Yj (v : Int) (xs : LL) (h : Db xs ≤ 1099511627776) : Od.c v xs = some ⟨[[.int v, .lst (FA xs)]], []⟩ := by
 have hl := Dk xs
 have : Jc.c xs = rL (FA xs) := by
  rw [Jc.eq]
  refine Iz (l0 := fun i acc => Jc.l0 xs _ i acc) (xs := xs) (f := fun x => [U.int (ui x 0), U.int (ui x 1), U.int (ui x 2), U.int (ui x 3), U.int (ui x 4), U.int (ui x 5), U.lst (JF (Db xs) (ul x 6))]) (R := fun acc => rL acc) (fun acc ha => ?_) fun i hi acc ha => ?_
  ·rw [Jc.Da, Dj (Nat.le_refl _)]; rfl
  ·have := sub_lt hi 6
   have hs := Ue (Db xs) (ui (xs.getD i []) 3) (ui (xs.getD i []) 4) (ui (xs.getD i []) 5) (ul (xs.getD i []) 6) this (by omega)
   rw [Jc.Da, Di hi, Dw hi, DG (by omega)]
   show ((Hv.c (ui (xs.getD i []) 3) (ui (xs.getD i []) 4) (ui (xs.getD i []) 5) (ul (xs.getD i []) 6)).bind _) = _
   rw [hs]
   show Cu (room (acc.length + 1) 72) _ = _
   rw [Dr (by omega) (by omega)]; rfl
 rw [Od.eq, this]; rfl
theorem Vi (n a : Int) (ps : LL) (v : Int) (rs : LL) (hp : ps.length ≤ 1099511627776) (hr : Db rs ≤ 1099511627776) : MS.c n a ps v rs = some ⟨[[.int n, .int a, .lst ps, .int v, .lst (FA rs)]], []⟩ := by
 rw [MS.eq, Dr (by omega) (by omega), aap v rs hr]; rfl
theorem Uf (n a : Int) (ps : LL) (v : Int) (rs : LL) (hp : ps.length ≤ 1099511627776) (hr : Db rs ≤ 1099511627776) : Mn.c n a ps v rs = some ⟨[[.int n, .int a, .lst ps, .int v, .lst (FA rs)]], []⟩ := by
 rw [Mn.eq, Dr (by omega) (by omega), Yj v rs hr]; rfl
theorem Vj (s : LL) (h : s.length ≤ 1099511627776) : MU.c s = rL s := by rw [MU.eq, Dr (by omega) (by omega)]; rfl
theorem Ug (s : LL) (h : s.length ≤ 1099511627776) : Mo.c s = rL s := by rw [Mo.eq, Dr (by omega) (by omega)]; rfl
theorem Vk (i n a : Int) (ps : LL) (v : Int) (rs s rv : LL) (sy : Int) (sv : LL) (hp : ps.length ≤ 1099511627776) (hr : Db rs ≤ 1099511627776) (hs : s.length ≤ 1099511627776) (hv : rv.length ≤ 1099511627776) (hw : sv.length ≤ 1099511627776) :
  MT.c i n a ps v rs s rv sy sv = some ⟨[[.int i, .int n, .int a, .lst ps, .int v, .lst (FA rs), .lst s, .lst rv, .int sy, .lst sv]], []⟩ := by
 rw [MT.eq, Vi n a ps v rs hp hr, Vj s hs, Dr (by omega) (by omega), Dr (by omega) (by omega)]; rfl
theorem Uh (i n a : Int) (ps : LL) (v : Int) (rs s rv : LL) (sy : Int) (sv : LL) (hp : ps.length ≤ 1099511627776) (hr : Db rs ≤ 1099511627776) (hs : s.length ≤ 1099511627776) (hv : rv.length ≤ 1099511627776) (hw : sv.length ≤ 1099511627776) :
  Mp.c i n a ps v rs s rv sy sv = some ⟨[[.int i, .int n, .int a, .lst ps, .int v, .lst (FA rs), .lst s, .lst rv, .int sy, .lst sv]], []⟩ := by
 rw [Mp.eq, Uf n a ps v rs hp hr, Ug s hs, Dr (by omega) (by omega), Dr (by omega) (by omega)]; rfl
end Go.Proofs.YtbanfmadialnkaaGreat.Eng
/- half -/
