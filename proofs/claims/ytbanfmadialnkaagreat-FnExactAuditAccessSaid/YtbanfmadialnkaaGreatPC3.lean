/- Pairs of roles, epochs, centers, points, worlds that are valid. -/
import Derived.Test.YtbanfmadialnkaaGreatPC2
namespace Go.Proofs.YtbanfmadialnkaaGreat.Eng
open Go.RowKit
set_option linter.unusedVariables false
set_option linter.unusedSimpArgs false
set_option linter.unusedSectionVars false
set_option maxRecDepth 100000
variable [Sm]
/-! ### Pairs -/
noncomputable def KJ (l : LL) (x : List U) : Bool := Jk x && !has (under l (ui x 1)) (ui x 0)
noncomputable def KI (l : LL) (x : List U) : Bool := Jk x && !En l (ui x 0).toNat (ui x 0).toNat
noncomputable def Ma (xs : LL) : Bool := xs.all (KI xs) && decide (ln xs ≤ 10)
theorem Sf (x : List U) : Jk x = (within (ui x 0) 0 5 && within (ui x 1) 0 5) := rfl
theorem acb {l : LL} {b : Int} {k : Nat} (hk : k < 6) (hb : within b 0 5 = true) : has (under l b) (k : Int) = Jl l b.toNat k := by
 have h1 := Vj (l := l) (role := b) hk
 rw [hb, decide_eq_true hk] at h1
 rw [Bool.eq_iff_iff]
 unfold has
 rw [List.any_eq_true]
 have h1 : [U.int (k : Int)] ∈ under l b ↔ Jl l b.toNat k = true := h1
 rw [← h1]
 constructor
 ·rintro ⟨x, hx, hv⟩
  obtain ⟨j, hj, rfl⟩ := Vi hx
  have hv : (j : Int) = (k : Int) := of_decide_eq_true hv
  have : j = k := by omega
  subst this; exact hx
 ·intro hx; exact ⟨_, hx, decide_eq_true rfl⟩
theorem Zd (l : LL) : l.all (KJ l) = l.all (KI l) := by
 classical
 rw [Bool.eq_iff_iff, List.all_eq_true, List.all_eq_true]
 have key : ∀ x, Jk x = true → (has (under l (ui x 1)) (ui x 0) = true ↔ EO l (ui x 1).toNat (ui x 0).toNat) := by
  intro x hx
  obtain ⟨h1, h2, h3, h4⟩ := QB hx
  rw [Sf, Bool.and_eq_true] at hx
  rw [h1, acb h2 hx.2]
  simp [Jl]
  rw [Int.max_eq_left (by omega)]
 constructor
 ·intro h x hx
  have h1 := h x hx
  unfold KJ at h1
  unfold KI
  rw [Bool.and_eq_true] at h1 ⊢
  refine ⟨h1.1, ?_⟩
  cases hr : En l (ui x 0).toNat (ui x 0).toNat
  ·rfl
  ·have hr : IK l (ui x 0).toNat (ui x 0).toNat := by simpa [En] using hr
   obtain ⟨b, ⟨y, hy, ho, e1, e2⟩, h3⟩ := hr.first
   have h4 := h y hy
   unfold KJ at h4
   rw [Bool.and_eq_true] at h4
   have h5 := (key y ho).2 (by rw [e2, e1]; exact h3)
   rw [h5] at h4
   exact h4.2
 ·intro h x hx
  have h1 := h x hx
  unfold KI at h1
  unfold KJ
  rw [Bool.and_eq_true] at h1 ⊢
  refine ⟨h1.1, ?_⟩
  cases hr : has (under l (ui x 1)) (ui x 0)
  ·rfl
  ·have h3 := (key x h1.1).1 hr
   have : IK l (ui x 0).toNat (ui x 0).toNat := IK.Zb ⟨x, hx, h1.1, rfl, rfl⟩ h3
   have h4 : En l (ui x 0).toNat (ui x 0).toNat = true := by simpa [En] using this
   rw [h4] at h1
   exact h1.2
theorem aaI (xs : LL) (hx : xs.length ≤ 1048576) : IE.c xs = rB (Ma xs) := by
 unfold Ma
 rw [← Zd, IE.eq]
 refine (Ee (l0 := fun i => IE.l0 xs i) (n := xs.length) (p := fun i => KJ xs (xs.getD i [])) (b := decide (ln xs ≤ 10)) ?_ fun i hi => ?_).trans (by rw [Jv xs [] (KJ xs)])
 ·rw [IE.CZ, Dq (Nat.le_refl _)]; rfl
 ·have hu := SL xs (ui (xs.getD i []) 1)
  rw [IE.CZ, Dr hi, DB hi, DG (by omega), EI, EI, UU xs (by omega)]
  simp only [q0, qb, ql, FE, cond_true]
  rw [OO _ (show (under xs (gi xs (i : Int) 1)).length ≤ _ from Nat.le_trans hu (by omega))]
  show (bif !within (ui (xs.getD i []) 0) 0 5 then _ else bif !within (ui (xs.getD i []) 1) 0 5 then _ else bif has (under xs (ui (xs.getD i []) 1)) (ui (xs.getD i []) 0) then _ else _) = _
  unfold KJ
  rw [Sf]
  simp only [JV, FW]
theorem Yd (xs : LL) (hx : xs.length ≤ 1048576) : Ii.c xs = rB (Ma xs) := by
 unfold Ma
 rw [Ii.eq]
 refine (Ee (l0 := fun i => Ii.l0 xs xs _ i) (n := xs.length) (p := fun i => KI xs (xs.getD i [])) (b := decide (ln xs ≤ 10)) ?_ fun i hi => ?_).trans (by rw [Jv xs [] (KI xs)])
 ·rw [Ii.CZ, Dq (Nat.le_refl _)]; rfl
 ·rw [Ii.CZ, Dr hi, DB hi, DG (by omega), PY, PY]
  show (bif !within (ui (xs.getD i []) 0) 0 5 then _ else bif !within (ui (xs.getD i []) 1) 0 5 then _ else (El.c xs (ui (xs.getD i []) 0)).bind _) = _
  unfold KI
  rw [Sf]
  cases h0 : within (ui (xs.getD i []) 0) 0 5
  ·rfl
  cases within (ui (xs.getD i []) 1) 0 5
  ·rfl
  obtain ⟨h1, h2⟩ := Ey h0
  generalize hz : ui (xs.getD i []) 0 = z at h1 h2
  obtain ⟨r, rfl⟩ := Int.eq_ofNat_of_zero_le h1
  rw [SX xs r (by omega) (by omega)]
  have Ku : gi xs (i : Int) 0 = (r : Int) := hz
  show Cu (dk (gi xs (i : Int) 0) 6) (bif [En xs r 0, En xs r 1, En xs r 2, En xs r 3, En xs r 4, En xs r 5].getD (gi xs (i : Int) 0).toNat false then _ else _) = _
  rw [Ku, DB (show r < 6 by omega), FE, Int.toNat_natCast, Ro _ (show r < 6 by omega)]
  show (bif En xs r r then _ else _) = bif !En xs r r then _ else _
  cases En xs r r <;> rfl
/-! ### Epochs -/
noncomputable def Lv (n a : Int) (ps : LL) (v : Int) (rs : LL) : Bool := within n 0 999 && (within a 0 10000 && (Ma ps && (KD v rs && decide (v = n))))
theorem UE (n a : Int) (ps : LL) (v : Int) (rs : LL) (hp : ps.length ≤ 1048576) (hr : Da rs ≤ 1099511627776) : LN.c n a ps v rs = rB (Lv n a ps v rs) := by
 simp only [LN.eq, EI, Hh, aaI ps hp, UM v rs hr, q0, qb, cB, DR]; rfl
theorem Tu (n a : Int) (ps : LL) (v : Int) (rs : LL) (hp : ps.length ≤ 1048576) (hr : Da rs ≤ 1099511627776) : Lm.c n a ps v rs = rB (Lv n a ps v rs) := by
 simp only [Lm.eq, Ez, Ie, Yd ps hp, TA v rs hr, q0, qb, cB, DR]; rfl
noncomputable def JI (x : List U) : Bool := Lv (ui x 0) (ui x 1) (ul x 2) (ui x 3) (ul x 4)
def Po (a b : List U) : Bool := decide (v0 a ≥ v0 b) || decide (ui a 1 > ui b 1)
noncomputable def LY (xs : LL) : Bool := ordered JI Po xs && decide (ln xs ≤ 6)
def QU (xs : LL) : Prop := xs.length ≤ 1048576 ∧ ∀ x ∈ xs, (ul x 2).length ≤ 1048576 ∧ Da (ul x 4) ≤ 1099511627776
theorem aas (xs : LL) (h : QU xs) : HS.c xs = rB (LY xs) := by
 obtain ⟨hx, hs⟩ := h
 rw [HS.eq]
 refine Ee (l0 := fun i => HS.l0 xs i) (n := xs.length) (p := fun i => JI (xs.getD i []) && Eu Po xs i) (b := decide (ln xs ≤ 6)) ?_ fun i hi => ?_
 ·rw [HS.CZ, Dq (Nat.le_refl _)]; rfl
 ·have hm := hs _ (Du hi (z := []))
  rw [HS.CZ, Dr hi, DB hi, DG (by omega), UE _ _ (gl xs (i : Int) 2) _ (gl xs (i : Int) 4) hm.1 hm.2]
  show (bif !JI (xs.getD i []) then _ else _) = bif JI (xs.getD i []) && Eu Po xs i then _ else rB false
  cases JI (xs.getD i [])
  ·rfl
  cases i with
  | zero => rfl
  | succ i =>
   rw [Ic (by omega), DB (show i < xs.length by omega), Io]
   show (bif decide (v0 (xs.getD i []) ≥ v0 (xs.getD (i + 1) [])) then _ else bif decide (ui (xs.getD i []) 1 > ui (xs.getD (i + 1) []) 1) then _ else _) = bif !(decide (v0 (xs.getD i []) ≥ v0 (xs.getD (i + 1) [])) || decide (ui (xs.getD i []) 1 > ui (xs.getD (i + 1) []) 1)) then _ else rB false
   cases decide (v0 (xs.getD i []) ≥ v0 (xs.getD (i + 1) [])) <;> cases decide (ui (xs.getD i []) 1 > ui (xs.getD (i + 1) []) 1) <;> rfl
theorem XN (xs : LL) (h : QU xs) : Ht.c xs = rB (LY xs) := by
 obtain ⟨hx, hs⟩ := h
 rw [Ht.eq]
 refine Ee (l0 := fun i => Ht.l0 xs xs _ i) (n := xs.length) (p := fun i => JI (xs.getD i []) && Eu Po xs i) (b := decide (ln xs ≤ 6)) ?_ fun i hi => ?_
 ·rw [Ht.CZ, Dq (Nat.le_refl _)]; rfl
 ·have hm := hs _ (Du hi (z := []))
  rw [Ht.CZ, Dr hi, DB hi, DG (by omega), Tu _ _ (gl xs (i : Int) 2) _ (gl xs (i : Int) 4) hm.1 hm.2]
  show (bif !JI (xs.getD i []) then _ else _) = bif JI (xs.getD i []) && Eu Po xs i then _ else rB false
  cases JI (xs.getD i [])
  ·rfl
  cases i with
  | zero => rfl
  | succ i =>
   rw [Ic (by omega), DB (show i < xs.length by omega), Io]
   show (bif decide (v0 (xs.getD i []) ≥ v0 (xs.getD (i + 1) [])) then _ else bif decide (ui (xs.getD i []) 1 > ui (xs.getD (i + 1) []) 1) then _ else _) = bif !(decide (v0 (xs.getD i []) ≥ v0 (xs.getD (i + 1) [])) || decide (ui (xs.getD i []) 1 > ui (xs.getD (i + 1) []) 1)) then _ else rB false
   cases decide (v0 (xs.getD i []) ≥ v0 (xs.getD (i + 1) [])) <;> cases decide (ui (xs.getD i []) 1 > ui (xs.getD (i + 1) []) 1) <;> rfl
/-! ### Centers -/
def Mi (k : Int) (i : Nat) (x : List U) : Bool := decide (ui x 0 = ((i + 1 : Nat) : Int)) && (Lu (ui x 0) (ui x 1) (ui x 2) (ui x 3) (ui x 4) && decide (Mh k (ui x 0) (ui x 1) (ui x 2) (ui x 3) (ui x 4) = ui x 5))
noncomputable def Qv (is es s rv : LL) (k : Int) (cs : LL) : Bool := (List.range cs.length).all (fun i => Mi k i (cs.getD i [])) && (Re is && (LY es && (Lw s && (KY rv && (within k 1 2147483646 && decide (ln cs ≤ 20))))))
structure QT (is es s rv cs : LL) : Prop where
 i1 : is.length ≤ 1048576
 i2 : ∀ x ∈ is, (ul x 1).length ≤ 1048576
 e : QU es
 s : s.length ≤ 1048576
 r : rv.length ≤ 1048576
 c : cs.length ≤ 1048576
theorem aag {is es s rv cs : LL} (h : QT is es s rv cs) (k : Int) : IG.c is es s rv k cs = rB (Qv is es s rv k cs) := by
 obtain ⟨h1, h2, h3, h4, h5, h6⟩ := h
 rw [IG.eq]
 refine Ee (l0 := fun i => IG.l0 i is es s rv k cs) (n := cs.length) (p := fun i => Mi k i (cs.getD i [])) (b := Re is && (LY es && (Lw s && (KY rv && (within k 1 2147483646 && decide (ln cs ≤ 20)))))) ?_ fun i hi => ?_
 ·rw [IG.CZ, Dq (Nat.le_refl _), ZY is h1 h2, aas es h3, UQ s h4, UC rv h5, SG]
  simp only [q0, qb, cB, DR, cond_false]; rfl
 ·rw [IG.CZ, Dr hi, DB hi, DG (by omega), aah, aaC]
  show (bif !decide (ui (cs.getD i []) 0 = ((i + 1 : Nat) : Int)) then _ else bif !Lu (ui (cs.getD i []) 0) (ui (cs.getD i []) 1) (ui (cs.getD i []) 2) (ui (cs.getD i []) 3) (ui (cs.getD i []) 4) then _ else bif !(decide (ui (cs.getD i []) 0 = ui (cs.getD i []) 0) && (decide (ui (cs.getD i []) 1 = ui (cs.getD i []) 1) && (decide (ui (cs.getD i []) 2 = ui (cs.getD i []) 2) && (decide (ui (cs.getD i []) 3 = ui (cs.getD i []) 3) && (decide (ui (cs.getD i []) 4 = ui (cs.getD i []) 4) && (decide (Mh k (ui (cs.getD i []) 0) (ui (cs.getD i []) 1) (ui (cs.getD i []) 2) (ui (cs.getD i []) 3) (ui (cs.getD i []) 4) = ui (cs.getD i []) 5) && true)))))) then _ else _) = _
  simp only [Mi, JV, FW, decide_true, Bool.and_true, Bool.true_and]
theorem XB {is es s rv cs : LL} (h : QT is es s rv cs) (k : Int) : Ik.c is es s rv k cs = rB (Qv is es s rv k cs) := by
 obtain ⟨h1, h2, h3, h4, h5, h6⟩ := h
 rw [Ik.eq]
 refine Ee (l0 := fun i => Ik.l0 cs (ln cs) i is es s rv k cs) (n := cs.length) (p := fun i => Mi k i (cs.getD i [])) (b := Re is && (LY es && (Lw s && (KY rv && (within k 1 2147483646 && decide (ln cs ≤ 20)))))) ?_ fun i hi => ?_
 ·rw [Ik.CZ, Dq (Nat.le_refl _), Xu is h1 h2, XN es h3, TE s h4, Tq rv h5, RR]
  simp only [q0, qb, cB, DR, cond_false]; rfl
 ·rw [Ik.CZ, Dr hi, DB hi, DG (by omega), XC, XX]
  show (bif !decide (ui (cs.getD i []) 0 = ((i + 1 : Nat) : Int)) then _ else bif !Lu (ui (cs.getD i []) 0) (ui (cs.getD i []) 1) (ui (cs.getD i []) 2) (ui (cs.getD i []) 3) (ui (cs.getD i []) 4) then _ else bif !(decide (ui (cs.getD i []) 0 = ui (cs.getD i []) 0) && (decide (ui (cs.getD i []) 1 = ui (cs.getD i []) 1) && (decide (ui (cs.getD i []) 2 = ui (cs.getD i []) 2) && (decide (ui (cs.getD i []) 3 = ui (cs.getD i []) 3) && (decide (ui (cs.getD i []) 4 = ui (cs.getD i []) 4) && (decide (Mh k (ui (cs.getD i []) 0) (ui (cs.getD i []) 1) (ui (cs.getD i []) 2) (ui (cs.getD i []) 3) (ui (cs.getD i []) 4) = ui (cs.getD i []) 5) && true)))))) then _ else _) = _
  simp only [Mi, JV, FW, decide_true, Bool.and_true, Bool.true_and]
/-! ### Points -/
def Lb (dec : Int → Int) (c u : Int) : Nat → Int → Bool
 | 0, _ => true
 | k + 1, t => bif decide (t ≤ u) then (decide (dec t = c) && Lb dec c u k (t + 1)) else true
noncomputable def II (ps : LL) (v : Int) (rs s : LL) (sy : Int) (x : List U) : Bool :=
 GV (ui x 0) (ui x 1) (ui x 2) (ui x 3) (ui x 4) (ui x 5) && (!decide (ui x 5 < sy) && (within (ui x 7) (ui x 5) (ui x 5 + 10) && Lb (fun t => IN ps s v rs (ui x 0) (ui x 1) (ui x 2) (ui x 3) (ui x 4) t) (ui x 6) (ui x 7) 12 (ui x 5)))
theorem US {i n a : Int} {ps : LL} {v : Int} {rs s rv : LL} {sy : Int} {sv : LL} (h : JS ps rs s rv sv) (p d g ac o q c u : Int) (hu : u ≤ 20000) : ∀ (k : Nat) (t : Int), u < t + k → -1 ≤ t → t ≤ 20001 →
  Ia.l0 t i n a ps v rs s rv sy sv p d g ac o q c u = rB (Lb (fun t => IN ps s v rs p d g ac o t) c u k t)
 | 0, t, h1, h2, h3 => by
  rw [Ia.CZ, decide_eq_false (by omega)]; rfl
 | k + 1, t, h1, h2, h3 => by
  have ih := fun hh => US (i := i) (n := n) (a := a) (v := v) (sy := sy) (sv := sv) h p d g ac o q c u hu k (t + 1) (by omega) (by omega) hh
  obtain ⟨p1, p2, p3, p4, p5⟩ := h
  rw [Ia.CZ, QM.eq]
  unfold Lb
  cases ht : decide (t ≤ u)
  ·rfl
  ·have ht := of_decide_eq_true ht
   show ((Hj.c ps s v rs p d g ac o t).bind _) = _
   rw [aak ps s v rs (by omega) (by omega) (by omega), Jc (n := t + 1) (by omega) (by omega), ih (by omega)]
   show (bif !decide (IN ps s v rs p d g ac o t = c) then _ else _) = rB (decide (IN ps s v rs p d g ac o t = c) && _)
   cases decide (IN ps s v rs p d g ac o t = c) <;> rfl
theorem TG {i n a : Int} {ps : LL} {v : Int} {rs s rv : LL} {sy : Int} {sv : LL} (h : JS ps rs s rv sv) (p d g ac o q c u : Int) (hu : u ≤ 20000) : ∀ (k : Nat) (t : Int), u < t + k → -1 ≤ t → t ≤ 20001 →
  HB.l0 t i n a ps v rs s rv sy sv p d g ac o q c u = rB (Lb (fun t => IN ps s v rs p d g ac o t) c u k t)
 | 0, t, h1, h2, h3 => by
  rw [HB.CZ, decide_eq_false (by omega)]; rfl
 | k + 1, t, h1, h2, h3 => by
  have ih := fun hh => TG (i := i) (n := n) (a := a) (v := v) (sy := sy) (sv := sv) h p d g ac o q c u hu k (t + 1) (by omega) (by omega) hh
  obtain ⟨p1, p2, p3, p4, p5⟩ := h
  rw [HB.CZ, PZ.eq]
  unfold Lb
  cases ht : decide (t ≤ u)
  ·rfl
  ·have ht := of_decide_eq_true ht
   show ((Lk.c ps s v rs p d g ac o t).bind _) = _
   rw [XG ps s v rs (by omega) (by omega) (by omega), Jc (n := t + 1) (by omega) (by omega), ih (by omega)]
   show (bif !decide (IN ps s v rs p d g ac o t = c) then _ else _) = rB (decide (IN ps s v rs p d g ac o t = c) && _)
   cases decide (IN ps s v rs p d g ac o t = c) <;> rfl
theorem aaT {i n a : Int} {ps : LL} {v : Int} {rs s rv : LL} {sy : Int} {sv : LL} (h : JS ps rs s rv sv) (x : List U) : Ia.c i n a ps v rs s rv sy sv (ui x 0) (ui x 1) (ui x 2) (ui x 3) (ui x 4) (ui x 5) (ui x 6) (ui x 7) = rB (II ps v rs s sy x) := by
 rw [Ia.eq, SH]
 unfold II
 show (bif !GV (ui x 0) (ui x 1) (ui x 2) (ui x 3) (ui x 4) (ui x 5) then _ else _) = _
 cases hq : GV (ui x 0) (ui x 1) (ui x 2) (ui x 3) (ui x 4) (ui x 5)
 ·rfl
 have hb := Ue hq
 rw [Jc (n := ui x 5 + 10) (by omega) (by omega)]
 show (bif decide (ui x 5 < sy) then _ else _) = _
 cases decide (ui x 5 < sy)
 ·by_cases h1 : ui x 7 < ui x 5
  ·rw [decide_eq_true h1]
   have : within (ui x 7) (ui x 5) (ui x 5 + 10) = false := by unfold within; rw [decide_eq_false (by omega)]; rfl
   rw [this]; rfl
  ·rw [decide_eq_false h1]
   by_cases h2 : ui x 7 > ui x 5 + 10
   ·rw [decide_eq_true h2]
    have : within (ui x 7) (ui x 5) (ui x 5 + 10) = false := by unfold within; rw [decide_eq_false (show ¬ ui x 7 ≤ ui x 5 + 10 by omega), Bool.and_false]
    rw [this]; rfl
   ·rw [decide_eq_false h2, Vl (by omega) (by omega)]
    exact US h _ _ _ _ _ _ _ _ (by omega) 12 _ (by omega) (by omega) (by omega)
 ·rfl
theorem Ym {i n a : Int} {ps : LL} {v : Int} {rs s rv : LL} {sy : Int} {sv : LL} (h : JS ps rs s rv sv) (x : List U) : HB.c i n a ps v rs s rv sy sv (ui x 0) (ui x 1) (ui x 2) (ui x 3) (ui x 4) (ui x 5) (ui x 6) (ui x 7) = rB (II ps v rs s sy x) := by
 rw [HB.eq, RT]
 unfold II
 show (bif !GV (ui x 0) (ui x 1) (ui x 2) (ui x 3) (ui x 4) (ui x 5) then _ else _) = _
 cases hq : GV (ui x 0) (ui x 1) (ui x 2) (ui x 3) (ui x 4) (ui x 5)
 ·rfl
 have hb := Ue hq
 rw [Jc (n := ui x 5 + 10) (by omega) (by omega), Ez]
 show (bif decide (ui x 5 < sy) then _ else bif !within (ui x 7) (ui x 5) (ui x 5 + 10) then _ else _) = _
 cases decide (ui x 5 < sy)
 ·cases hw : within (ui x 7) (ui x 5) (ui x 5 + 10)
  ·rfl
  ·obtain ⟨h1, h2⟩ := Ey hw
   exact TG h _ _ _ _ _ _ _ _ (by omega) 12 _ (by omega) (by omega) (by omega)
 ·rfl
def Oi (n a : Int) (ps : LL) (v : Int) (rs s rv sv : LL) : Bool := decide (n = 0) && (decide (a = 0) && (ps.isEmpty && (decide (v = 0) && (rs.isEmpty && (s.isEmpty && (rv.isEmpty && sv.isEmpty))))))
noncomputable def JZ (n a : Int) (ps : LL) (v : Int) (rs s rv : LL) (sy : Int) (sv : LL) : Bool :=
 bif decide (sy = -1) then Oi n a ps v rs s rv sv else (within sy 0 10000 && (Lv n a ps v rs && (Lw s && (KY rv && (decide (ln sv ≤ 8) && sv.all (II ps v rs s sy))))))
theorem Jt {x : List U} {xs : LL} : decide (ln (x :: xs) = ln []) = false := decide_eq_false (by show ¬ (((xs.length + 1 : Nat)) : Int) = 0; omega)
theorem aal (xs : LL) : IY.c xs [] = rB xs.isEmpty := by
 rw [IY.eq]
 cases xs with
 | nil => show IY.l0 [] [] 0 = _; rw [IY.CZ]; rfl
 | cons x xs => rw [Jt]; rfl
theorem aao (xs : LL) : IX.c xs [] = rB xs.isEmpty := by
 rw [IX.eq]
 cases xs with
 | nil => show IX.l0 [] [] 0 = _; rw [IX.CZ]; rfl
 | cons x xs => rw [Jt]; rfl
theorem aan (xs : LL) : IZ.c xs [] = rB xs.isEmpty := by
 rw [IZ.eq]
 cases xs with
 | nil => show IZ.l0 [] [] 0 = _; rw [IZ.CZ]; rfl
 | cons x xs => rw [Jt]; rfl
theorem aap (xs : LL) : Ja.c xs [] = rB xs.isEmpty := by
 rw [Ja.eq]
 cases xs with
 | nil => show Ja.l0 [] [] 0 = _; rw [Ja.CZ]; rfl
 | cons x xs => rw [Jt]; rfl
theorem aam (v : Int) (xs : LL) : IW.c v xs 0 [] = rB (decide (v = 0) && xs.isEmpty) := by
 rw [IW.eq]
 cases decide (v = 0)
 ·rfl
 cases xs with
 | nil => show IW.l0 0 v [] 0 [] = _; rw [IW.CZ]; rfl
 | cons x xs => rw [Jt]; rfl
theorem XI (xs : LL) : IT.c xs [] = rB xs.isEmpty := by
 rw [IT.eq]
 cases xs with
 | nil => show IT.l0 [] [] 0 0 = _; rw [IT.CZ]; rfl
 | cons x xs => rw [Jt]; rfl
theorem XH (xs : LL) : IS.c xs [] = rB xs.isEmpty := by
 rw [IS.eq]
 cases xs with
 | nil => show IS.l0 [] [] 0 0 = _; rw [IS.CZ]; rfl
 | cons x xs => rw [Jt]; rfl
theorem XK (xs : LL) : IU.c xs [] = rB xs.isEmpty := by
 rw [IU.eq]
 cases xs with
 | nil => show IU.l0 [] [] 0 0 = _; rw [IU.CZ]; rfl
 | cons x xs => rw [Jt]; rfl
theorem XL (xs : LL) : IV.c xs [] = rB xs.isEmpty := by
 rw [IV.eq]
 cases xs with
 | nil => show IV.l0 [] [] 0 0 = _; rw [IV.CZ]; rfl
 | cons x xs => rw [Jt]; rfl
theorem XJ (xs : LL) : IQ.c xs [] = rB xs.isEmpty := by
 rw [IQ.eq]
 cases xs with
 | nil => show IQ.l0 [] [] 0 0 = _; rw [IQ.CZ]; rfl
 | cons x xs => rw [Jt]; rfl
theorem aaG (i n a : Int) (ps : LL) (v : Int) (rs s rv sv : LL) : LM.c i n a ps v rs s rv (-1) sv i 0 0 [] 0 [] [] [] (-1) [] = rB (Oi n a ps v rs s rv sv) := by
 simp only [LM.eq, QN.eq, aal, aao, aan, aap, aam, q0, qb, cB, DR, decide_true, cond_true, Bool.true_and]
 unfold Oi
 simp only [Bool.and_assoc]
theorem Yb (i n a : Int) (ps : LL) (v : Int) (rs s rv sv : LL) : Ll.c i n a ps v rs s rv (-1) sv i 0 0 [] 0 [] [] [] (-1) [] = rB (Oi n a ps v rs s rv sv) := by
 simp only [Ll.eq, Qb.eq, Qd.eq, Qc.eq, XI, XH, XK, XL, XJ, q0, qb, cB, DR, decide_true, cond_true, Bool.true_and]
 unfold Oi
 simp only [Bool.and_assoc]
theorem aaK {i n a : Int} {ps : LL} {v : Int} {rs s rv : LL} {sy : Int} {sv : LL} (h : JS ps rs s rv sv) : HX.c i n a ps v rs s rv sy sv = rB (JZ n a ps v rs s rv sy sv) := by
 rw [HX.eq, QP.eq]
 unfold JZ
 by_cases hs : sy = -1
 ·subst hs
  show ((LM.c i n a ps v rs s rv (-1) sv i 0 0 [] 0 [] [] [] (-1) []).bind _) = _
  rw [aaG]; rfl
 ·rw [decide_eq_false hs]
  show HX.l0 0 i n a ps v rs s rv sy sv = rB _
  have hp := h
  obtain ⟨p1, p2, p3, p4, p5⟩ := h
  refine (Jy (l0 := fun j => HX.l0 j i n a ps v rs s rv sy sv) (n := sv.length) (p := fun j => II ps v rs s sy (sv.getD j [])) (F := rB false) (R := rB (within sy 0 10000 && (Lv n a ps v rs && (Lw s && (KY rv && decide (ln sv ≤ 8)))))) ?_ fun j hj => ?_).trans ?_
  ·rw [HX.CZ, Dq (Nat.le_refl _), Hh, UE n a ps v rs (by omega) (by omega), UQ s (by omega), UC rv (by omega)]
   simp only [q0, qb, cB, DR, cond_false]; rfl
  ·rw [HX.CZ, Dr hj, DB hj, DG (by omega)]
   show ((Ia.c i n a ps v rs s rv sy sv (ui (sv.getD j []) 0) (ui (sv.getD j []) 1) (ui (sv.getD j []) 2) (ui (sv.getD j []) 3) (ui (sv.getD j []) 4) (ui (sv.getD j []) 5) (ui (sv.getD j []) 6) (ui (sv.getD j []) 7)).bind _) = _
   rw [aaT hp]
   show (bif !II ps v rs s sy (sv.getD j []) then _ else _) = _
   rw [FW]
  ·rw [Jv sv [] (II ps v rs s sy)]
   cases sv.all (II ps v rs s sy)
   ·simp
   ·simp
theorem Yf {i n a : Int} {ps : LL} {v : Int} {rs s rv : LL} {sy : Int} {sv : LL} (h : JS ps rs s rv sv) : MO.c i n a ps v rs s rv sy sv = rB (JZ n a ps v rs s rv sy sv) := by
 rw [MO.eq, Qm.eq]
 unfold JZ
 by_cases hs : sy = -1
 ·subst hs
  show ((Ll.c i n a ps v rs s rv (-1) sv i 0 0 [] 0 [] [] [] (-1) []).bind _) = _
  rw [Yb]; rfl
 ·rw [decide_eq_false hs]
  have hp := h
  obtain ⟨p1, p2, p3, p4, p5⟩ := h
  have RL : Is.c sv i n a ps v rs s rv sy sv = rI (pos (fun j => !II ps v rs s sy (sv.getD j [])) sv.length 0) := by
   rw [Is.eq]
   refine Hs (l0 := fun j => Is.l0 sv i n a ps v rs s rv sy sv _ j) (n := sv.length) (p := fun j => !II ps v rs s sy (sv.getD j [])) ?_ fun j hj => ?_
   ·rw [Is.CZ, Dq (Nat.le_refl _)]; rfl
   ·rw [Is.CZ, Dr hj, DB hj, DG (by omega), Qh.eq]
    show (((HB.c i n a ps v rs s rv sy sv (ui (sv.getD j []) 0) (ui (sv.getD j []) 1) (ui (sv.getD j []) 2) (ui (sv.getD j []) 3) (ui (sv.getD j []) 4) (ui (sv.getD j []) 5) (ui (sv.getD j []) 6) (ui (sv.getD j []) 7)).bind _).bind _) = _
    rw [Ym hp]; rfl
  rw [Ie, Tu n a ps v rs (by omega) (by omega), TE s (by omega), Tq rv (by omega), QI.eq, RL]
  simp only [q0, qb, qi, cB, DR, cond_false]
  show rB (within sy 0 10000 && (Lv n a ps v rs && (Lw s && (KY rv && (decide (ln sv ≤ 8) && !(decide (pos (fun j => !II ps v rs s sy (sv.getD j [])) sv.length 0 ≥ 0))))))) = _
  rw [Jn fun x => !II ps v rs s sy x]
  congr 6
  rw [List.all_eq_not_any_not]
end Go.Proofs.YtbanfmadialnkaaGreat.Eng
/- half -/
