/- Pairs of roles, epochs, centers, points, worlds that are valid. -/
import Derived.Test.YtbanfmadialnkaaGreatPC2
namespace Go.Proofs.YtbanfmadialnkaaGreat.Eng
open Go.RowKit
set_option linter.unusedVariables false
set_option linter.unusedSimpArgs false
set_option linter.unusedSectionVars false
set_option maxRecDepth 100000
variable [Sm]
/-! ### Pairs -/
noncomputable def sZ (l : LL) (x : List U) : Bool := nx x && !has (under l (ui x 1)) (ui x 0)
noncomputable def ta (l : LL) (x : List U) : Bool := nx x && !dC l (ui x 0).toNat (ui x 0).toNat
noncomputable def Ah (xs : LL) : Bool := xs.all (ta xs) && decide (ln xs ≤ 10)
theorem GI (x : List U) : nx x = (within (ui x 0) 0 5 && within (ui x 1) 0 5) := rfl
theorem SJ {l : LL} {b : Int} {k : Nat} (hk : k < 6) (hb : within b 0 5 = true) : has (under l b) (k : Int) = ny l b.toNat k := by
 have h1 := KU (l := l) (role := b) hk
 rw [hb, decide_eq_true hk] at h1
 rw [Bool.eq_iff_iff]
 unfold has
 rw [List.any_eq_true]
 have h1 : [U.int (k : Int)] ∈ under l b ↔ ny l b.toNat k = true := h1
 rw [← h1]
 constructor
 ·rintro ⟨x, hx, hv⟩
  obtain ⟨j, hj, rfl⟩ := KV hx
  have hv : (j : Int) = (k : Int) := of_decide_eq_true hv
  have : j = k := by omega
  subst this; exact hx
 ·intro hx; exact ⟨_, hx, decide_eq_true rfl⟩
theorem SK (l : LL) : l.all (sZ l) = l.all (ta l) := by
 classical
 rw [Bool.eq_iff_iff, List.all_eq_true, List.all_eq_true]
 have key : ∀ x, nx x = true → (has (under l (ui x 1)) (ui x 0) = true ↔ eY l (ui x 1).toNat (ui x 0).toNat) := by
  intro x hx
  obtain ⟨h1, h2, h3, h4⟩ := CX hx
  rw [GI, Bool.and_eq_true] at hx
  rw [h1, SJ h2 hx.2]
  simp [ny]
  rw [Int.max_eq_left (by omega)]
 constructor
 ·intro h x hx
  have h1 := h x hx
  unfold sZ at h1
  unfold ta
  rw [Bool.and_eq_true] at h1 ⊢
  refine ⟨h1.1, ?_⟩
  cases hr : dC l (ui x 0).toNat (ui x 0).toNat
  ·rfl
  ·have hr : mR l (ui x 0).toNat (ui x 0).toNat := by simpa [dC] using hr
   obtain ⟨b, ⟨y, hy, ho, e1, e2⟩, h3⟩ := hr.first
   have h4 := h y hy
   unfold sZ at h4
   rw [Bool.and_eq_true] at h4
   have h5 := (key y ho).2 (by rw [e2, e1]; exact h3)
   rw [h5] at h4
   exact h4.2
 ·intro h x hx
  have h1 := h x hx
  unfold ta at h1
  unfold sZ
  rw [Bool.and_eq_true] at h1 ⊢
  refine ⟨h1.1, ?_⟩
  cases hr : has (under l (ui x 1)) (ui x 0)
  ·rfl
  ·have h3 := (key x h1.1).1 hr
   have : mR l (ui x 0).toNat (ui x 0).toNat := mR.SL ⟨x, hx, h1.1, rfl, rfl⟩ h3
   have h4 : dC l (ui x 0).toNat (ui x 0).toNat = true := by simpa [dC] using this
   rw [h4] at h1
   exact h1.2
theorem SM (xs : LL) (hx : xs.length ≤ 1048576) : lI.c xs = rB (Ah xs) := by
 unfold Ah
 rw [← SK, lI.eq]
 refine (dr (l0 := fun i => lI.l0 xs i) (n := xs.length) (p := fun i => sZ xs (xs.getD i [])) (b := decide (ln xs ≤ 10)) ?_ fun i hi => ?_).trans (by rw [nF xs [] (sZ xs)])
 ·rw [lI.ah, aQ (Nat.le_refl _)]; rfl
 ·have hu := GJ xs (ui (xs.getD i []) 1)
  rw [lI.ah, aR hi, bo hi, bH (by omega), eD, eD, KW xs (by omega)]
  simp only [q0, qb, ql, gd, cond_true]
  rw [wk _ (show (under xs (gi xs (i : Int) 1)).length ≤ _ from Nat.le_trans hu (by omega))]
  show (bif !within (ui (xs.getD i []) 0) 0 5 then _ else bif !within (ui (xs.getD i []) 1) 0 5 then _ else bif has (under xs (ui (xs.getD i []) 1)) (ui (xs.getD i []) 0) then _ else _) = _
  unfold sZ
  rw [GI]
  simp only [pV, gL]
theorem SN (xs : LL) (hx : xs.length ≤ 1048576) : lJ.c xs = rB (Ah xs) := by
 unfold Ah
 rw [lJ.eq]
 refine (dr (l0 := fun i => lJ.l0 xs xs _ i) (n := xs.length) (p := fun i => ta xs (xs.getD i [])) (b := decide (ln xs ≤ 10)) ?_ fun i hi => ?_).trans (by rw [nF xs [] (ta xs)])
 ·rw [lJ.ah, aQ (Nat.le_refl _)]; rfl
 ·rw [lJ.ah, aR hi, bo hi, bH (by omega), CY, CY]
  show (bif !within (ui (xs.getD i []) 0) 0 5 then _ else bif !within (ui (xs.getD i []) 1) 0 5 then _ else (dz.c xs (ui (xs.getD i []) 0)).bind _) = _
  unfold ta
  rw [GI]
  cases h0 : within (ui (xs.getD i []) 0) 0 5
  ·rfl
  cases within (ui (xs.getD i []) 1) 0 5
  ·rfl
  obtain ⟨h1, h2⟩ := dV h0
  generalize hz : ui (xs.getD i []) 0 = z at h1 h2
  obtain ⟨r, rfl⟩ := Int.eq_ofNat_of_zero_le h1
  rw [KX xs r (by omega) (by omega)]
  have sB : gi xs (i : Int) 0 = (r : Int) := hz
  show ae (an (gi xs (i : Int) 0) 6) (bif [dC xs r 0, dC xs r 1, dC xs r 2, dC xs r 3, dC xs r 4, dC xs r 5].getD (gi xs (i : Int) 0).toNat false then _ else _) = _
  rw [sB, bo (show r < 6 by omega), gd, Int.toNat_natCast, GK _ (show r < 6 by omega)]
  show (bif dC xs r r then _ else _) = bif !dC xs r r then _ else _
  cases dC xs r r <;> rfl
/-! ### Epochs -/
noncomputable def vI (n a : Int) (ps : LL) (v : Int) (rs : LL) : Bool := within n 0 999 && (within a 0 10000 && (Ah ps && (tc v rs && decide (v = n))))
theorem KY (n a : Int) (ps : LL) (v : Int) (rs : LL) (hp : ps.length ≤ 1048576) (hr : ai rs ≤ 1099511627776) : ua.c n a ps v rs = rB (vI n a ps v rs) := by
 simp only [ua.eq, eD, jj, SM ps hp, KZ v rs hr, q0, qb, cB, cJ]; rfl
theorem K0 (n a : Int) (ps : LL) (v : Int) (rs : LL) (hp : ps.length ≤ 1048576) (hr : ai rs ≤ 1099511627776) : uf.c n a ps v rs = rB (vI n a ps v rs) := by
 simp only [uf.eq, dZ, lf, SN ps hp, K1 v rs hr, q0, qb, cB, cJ]; rfl
noncomputable def pG (x : List U) : Bool := vI (ui x 0) (ui x 1) (ul x 2) (ui x 3) (ul x 4)
def Ai (a b : List U) : Bool := decide (v0 a ≥ v0 b) || decide (ui a 1 > ui b 1)
noncomputable def Aj (xs : LL) : Bool := ordered pG Ai xs && decide (ln xs ≤ 6)
def GL (xs : LL) : Prop := xs.length ≤ 1048576 ∧ ∀ x ∈ xs, (ul x 2).length ≤ 1048576 ∧ ai (ul x 4) ≤ 1099511627776
theorem SO (xs : LL) (h : GL xs) : ky.c xs = rB (Aj xs) := by
 obtain ⟨hx, hs⟩ := h
 rw [ky.eq]
 refine dr (l0 := fun i => ky.l0 xs i) (n := xs.length) (p := fun i => pG (xs.getD i []) && dY Ai xs i) (b := decide (ln xs ≤ 6)) ?_ fun i hi => ?_
 ·rw [ky.ah, aQ (Nat.le_refl _)]; rfl
 ·have hm := hs _ (aZ hi (z := []))
  rw [ky.ah, aR hi, bo hi, bH (by omega), KY _ _ (gl xs (i : Int) 2) _ (gl xs (i : Int) 4) hm.1 hm.2]
  show (bif !pG (xs.getD i []) then _ else _) = bif pG (xs.getD i []) && dY Ai xs i then _ else rB false
  cases pG (xs.getD i [])
  ·rfl
  cases i with
  | zero => rfl
  | succ i =>
   rw [k0 (by omega), bo (show i < xs.length by omega), mf]
   show (bif decide (v0 (xs.getD i []) ≥ v0 (xs.getD (i + 1) [])) then _ else bif decide (ui (xs.getD i []) 1 > ui (xs.getD (i + 1) []) 1) then _ else _) = bif !(decide (v0 (xs.getD i []) ≥ v0 (xs.getD (i + 1) [])) || decide (ui (xs.getD i []) 1 > ui (xs.getD (i + 1) []) 1)) then _ else rB false
   cases decide (v0 (xs.getD i []) ≥ v0 (xs.getD (i + 1) [])) <;> cases decide (ui (xs.getD i []) 1 > ui (xs.getD (i + 1) []) 1) <;> rfl
theorem SP (xs : LL) (h : GL xs) : kA.c xs = rB (Aj xs) := by
 obtain ⟨hx, hs⟩ := h
 rw [kA.eq]
 refine dr (l0 := fun i => kA.l0 xs xs _ i) (n := xs.length) (p := fun i => pG (xs.getD i []) && dY Ai xs i) (b := decide (ln xs ≤ 6)) ?_ fun i hi => ?_
 ·rw [kA.ah, aQ (Nat.le_refl _)]; rfl
 ·have hm := hs _ (aZ hi (z := []))
  rw [kA.ah, aR hi, bo hi, bH (by omega), K0 _ _ (gl xs (i : Int) 2) _ (gl xs (i : Int) 4) hm.1 hm.2]
  show (bif !pG (xs.getD i []) then _ else _) = bif pG (xs.getD i []) && dY Ai xs i then _ else rB false
  cases pG (xs.getD i [])
  ·rfl
  cases i with
  | zero => rfl
  | succ i =>
   rw [k0 (by omega), bo (show i < xs.length by omega), mf]
   show (bif decide (v0 (xs.getD i []) ≥ v0 (xs.getD (i + 1) [])) then _ else bif decide (ui (xs.getD i []) 1 > ui (xs.getD (i + 1) []) 1) then _ else _) = bif !(decide (v0 (xs.getD i []) ≥ v0 (xs.getD (i + 1) [])) || decide (ui (xs.getD i []) 1 > ui (xs.getD (i + 1) []) 1)) then _ else rB false
   cases decide (v0 (xs.getD i []) ≥ v0 (xs.getD (i + 1) [])) <;> cases decide (ui (xs.getD i []) 1 > ui (xs.getD (i + 1) []) 1) <;> rfl
/-! ### Centers -/
def Ak (k : Int) (i : Nat) (x : List U) : Bool := decide (ui x 0 = ((i + 1 : Nat) : Int)) && (tQ (ui x 0) (ui x 1) (ui x 2) (ui x 3) (ui x 4) && decide (wF k (ui x 0) (ui x 1) (ui x 2) (ui x 3) (ui x 4) = ui x 5))
noncomputable def AW (is es s rv : LL) (k : Int) (cs : LL) : Bool := (List.range cs.length).all (fun i => Ak k i (cs.getD i [])) && (GM is && (Aj es && (vJ s && (vK rv && (within k 1 2147483646 && decide (ln cs ≤ 20))))))
structure Dp (is es s rv cs : LL) : Prop where
 i1 : is.length ≤ 1048576
 i2 : ∀ x ∈ is, (ul x 1).length ≤ 1048576
 e : GL es
 s : s.length ≤ 1048576
 r : rv.length ≤ 1048576
 c : cs.length ≤ 1048576
theorem Np {is es s rv cs : LL} (h : Dp is es s rv cs) (k : Int) : lA.c is es s rv k cs = rB (AW is es s rv k cs) := by
 obtain ⟨h1, h2, h3, h4, h5, h6⟩ := h
 rw [lA.eq]
 refine dr (l0 := fun i => lA.l0 i is es s rv k cs) (n := cs.length) (p := fun i => Ak k i (cs.getD i [])) (b := GM is && (Aj es && (vJ s && (vK rv && (within k 1 2147483646 && decide (ln cs ≤ 20)))))) ?_ fun i hi => ?_
 ·rw [lA.ah, aQ (Nat.le_refl _), SQ is h1 h2, SO es h3, K2 s h4, K3 rv h5, DC]
  simp only [q0, qb, cB, cJ, cond_false]; rfl
 ·rw [lA.ah, aR hi, bo hi, bH (by omega), NX, N2]
  show (bif !decide (ui (cs.getD i []) 0 = ((i + 1 : Nat) : Int)) then _ else bif !tQ (ui (cs.getD i []) 0) (ui (cs.getD i []) 1) (ui (cs.getD i []) 2) (ui (cs.getD i []) 3) (ui (cs.getD i []) 4) then _ else bif !(decide (ui (cs.getD i []) 0 = ui (cs.getD i []) 0) && (decide (ui (cs.getD i []) 1 = ui (cs.getD i []) 1) && (decide (ui (cs.getD i []) 2 = ui (cs.getD i []) 2) && (decide (ui (cs.getD i []) 3 = ui (cs.getD i []) 3) && (decide (ui (cs.getD i []) 4 = ui (cs.getD i []) 4) && (decide (wF k (ui (cs.getD i []) 0) (ui (cs.getD i []) 1) (ui (cs.getD i []) 2) (ui (cs.getD i []) 3) (ui (cs.getD i []) 4) = ui (cs.getD i []) 5) && true)))))) then _ else _) = _
  simp only [Ak, pV, gL, decide_true, Bool.and_true, Bool.true_and]
theorem NB {is es s rv cs : LL} (h : Dp is es s rv cs) (k : Int) : lC.c is es s rv k cs = rB (AW is es s rv k cs) := by
 obtain ⟨h1, h2, h3, h4, h5, h6⟩ := h
 rw [lC.eq]
 refine dr (l0 := fun i => lC.l0 cs (ln cs) i is es s rv k cs) (n := cs.length) (p := fun i => Ak k i (cs.getD i [])) (b := GM is && (Aj es && (vJ s && (vK rv && (within k 1 2147483646 && decide (ln cs ≤ 20)))))) ?_ fun i hi => ?_
 ·rw [lC.ah, aQ (Nat.le_refl _), SR is h1 h2, SP es h3, K4 s h4, K5 rv h5, DD]
  simp only [q0, qb, cB, cJ, cond_false]; rfl
 ·rw [lC.ah, aR hi, bo hi, bH (by omega), NW, N3]
  show (bif !decide (ui (cs.getD i []) 0 = ((i + 1 : Nat) : Int)) then _ else bif !tQ (ui (cs.getD i []) 0) (ui (cs.getD i []) 1) (ui (cs.getD i []) 2) (ui (cs.getD i []) 3) (ui (cs.getD i []) 4) then _ else bif !(decide (ui (cs.getD i []) 0 = ui (cs.getD i []) 0) && (decide (ui (cs.getD i []) 1 = ui (cs.getD i []) 1) && (decide (ui (cs.getD i []) 2 = ui (cs.getD i []) 2) && (decide (ui (cs.getD i []) 3 = ui (cs.getD i []) 3) && (decide (ui (cs.getD i []) 4 = ui (cs.getD i []) 4) && (decide (wF k (ui (cs.getD i []) 0) (ui (cs.getD i []) 1) (ui (cs.getD i []) 2) (ui (cs.getD i []) 3) (ui (cs.getD i []) 4) = ui (cs.getD i []) 5) && true)))))) then _ else _) = _
  simp only [Ak, pV, gL, decide_true, Bool.and_true, Bool.true_and]
/-! ### Points -/
def vL (dec : Int → Int) (c u : Int) : Nat → Int → Bool
 | 0, _ => true
 | k + 1, t => bif decide (t ≤ u) then (decide (dec t = c) && vL dec c u k (t + 1)) else true
noncomputable def mg (ps : LL) (v : Int) (rs s : LL) (sy : Int) (x : List U) : Bool :=
 iN (ui x 0) (ui x 1) (ui x 2) (ui x 3) (ui x 4) (ui x 5) && (!decide (ui x 5 < sy) && (within (ui x 7) (ui x 5) (ui x 5 + 10) && vL (fun t => mS ps s v rs (ui x 0) (ui x 1) (ui x 2) (ui x 3) (ui x 4) t) (ui x 6) (ui x 7) 12 (ui x 5)))
theorem K6 {i n a : Int} {ps : LL} {v : Int} {rs s rv : LL} {sy : Int} {sv : LL} (h : qX ps rs s rv sv) (p d g ac o q c u : Int) (hu : u ≤ 20000) : ∀ (k : Nat) (t : Int), u < t + k → -1 ≤ t → t ≤ 20001 →
  ku.l0 t i n a ps v rs s rv sy sv p d g ac o q c u = rB (vL (fun t => mS ps s v rs p d g ac o t) c u k t)
 | 0, t, h1, h2, h3 => by
  rw [ku.ah, decide_eq_false (by omega)]; rfl
 | k + 1, t, h1, h2, h3 => by
  have ih := fun hh => K6 (i := i) (n := n) (a := a) (v := v) (sy := sy) (sv := sv) h p d g ac o q c u hu k (t + 1) (by omega) (by omega) hh
  obtain ⟨p1, p2, p3, p4, p5⟩ := h
  rw [ku.ah, Bg.eq]
  unfold vL
  cases ht : decide (t ≤ u)
  ·rfl
  ·have ht := of_decide_eq_true ht
   show ((jt.c ps s v rs p d g ac o t).bind _) = _
   rw [SS ps s v rs (by omega) (by omega) (by omega), mh (n := t + 1) (by omega) (by omega), ih (by omega)]
   show (bif !decide (mS ps s v rs p d g ac o t = c) then _ else _) = rB (decide (mS ps s v rs p d g ac o t = c) && _)
   cases decide (mS ps s v rs p d g ac o t = c) <;> rfl
theorem K7 {i n a : Int} {ps : LL} {v : Int} {rs s rv : LL} {sy : Int} {sv : LL} (h : qX ps rs s rv sv) (p d g ac o q c u : Int) (hu : u ≤ 20000) : ∀ (k : Nat) (t : Int), u < t + k → -1 ≤ t → t ≤ 20001 →
  kE.l0 t i n a ps v rs s rv sy sv p d g ac o q c u = rB (vL (fun t => mS ps s v rs p d g ac o t) c u k t)
 | 0, t, h1, h2, h3 => by
  rw [kE.ah, decide_eq_false (by omega)]; rfl
 | k + 1, t, h1, h2, h3 => by
  have ih := fun hh => K7 (i := i) (n := n) (a := a) (v := v) (sy := sy) (sv := sv) h p d g ac o q c u hu k (t + 1) (by omega) (by omega) hh
  obtain ⟨p1, p2, p3, p4, p5⟩ := h
  rw [kE.ah, Bq.eq]
  unfold vL
  cases ht : decide (t ≤ u)
  ·rfl
  ·have ht := of_decide_eq_true ht
   show ((uo.c ps s v rs p d g ac o t).bind _) = _
   rw [SU ps s v rs (by omega) (by omega) (by omega), mh (n := t + 1) (by omega) (by omega), ih (by omega)]
   show (bif !decide (mS ps s v rs p d g ac o t = c) then _ else _) = rB (decide (mS ps s v rs p d g ac o t = c) && _)
   cases decide (mS ps s v rs p d g ac o t = c) <;> rfl
theorem SW {i n a : Int} {ps : LL} {v : Int} {rs s rv : LL} {sy : Int} {sv : LL} (h : qX ps rs s rv sv) (x : List U) : ku.c i n a ps v rs s rv sy sv (ui x 0) (ui x 1) (ui x 2) (ui x 3) (ui x 4) (ui x 5) (ui x 6) (ui x 7) = rB (mg ps v rs s sy x) := by
 rw [ku.eq, Dy]
 unfold mg
 show (bif !iN (ui x 0) (ui x 1) (ui x 2) (ui x 3) (ui x 4) (ui x 5) then _ else _) = _
 cases hq : iN (ui x 0) (ui x 1) (ui x 2) (ui x 3) (ui x 4) (ui x 5)
 ·rfl
 have hb := K8 hq
 rw [mh (n := ui x 5 + 10) (by omega) (by omega)]
 show (bif decide (ui x 5 < sy) then _ else _) = _
 cases decide (ui x 5 < sy)
 ·by_cases h1 : ui x 7 < ui x 5
  ·rw [decide_eq_true h1]
   have : within (ui x 7) (ui x 5) (ui x 5 + 10) = false := by unfold within; rw [decide_eq_false (by omega)]; rfl
   rw [this]; rfl
  ·rw [decide_eq_false h1]
   by_cases h2 : ui x 7 > ui x 5 + 10
   ·rw [decide_eq_true h2]
    have : within (ui x 7) (ui x 5) (ui x 5 + 10) = false := by unfold within; rw [decide_eq_false (show ¬ ui x 7 ≤ ui x 5 + 10 by omega), Bool.and_false]
    rw [this]; rfl
   ·rw [decide_eq_false h2, HE (by omega) (by omega)]
    exact K6 h _ _ _ _ _ _ _ _ (by omega) 12 _ (by omega) (by omega) (by omega)
 ·rfl
theorem SX {i n a : Int} {ps : LL} {v : Int} {rs s rv : LL} {sy : Int} {sv : LL} (h : qX ps rs s rv sv) (x : List U) : kE.c i n a ps v rs s rv sy sv (ui x 0) (ui x 1) (ui x 2) (ui x 3) (ui x 4) (ui x 5) (ui x 6) (ui x 7) = rB (mg ps v rs s sy x) := by
 rw [kE.eq, Dz]
 unfold mg
 show (bif !iN (ui x 0) (ui x 1) (ui x 2) (ui x 3) (ui x 4) (ui x 5) then _ else _) = _
 cases hq : iN (ui x 0) (ui x 1) (ui x 2) (ui x 3) (ui x 4) (ui x 5)
 ·rfl
 have hb := K8 hq
 rw [mh (n := ui x 5 + 10) (by omega) (by omega), dZ]
 show (bif decide (ui x 5 < sy) then _ else bif !within (ui x 7) (ui x 5) (ui x 5 + 10) then _ else _) = _
 cases decide (ui x 5 < sy)
 ·cases hw : within (ui x 7) (ui x 5) (ui x 5 + 10)
  ·rfl
  ·obtain ⟨h1, h2⟩ := dV hw
   exact K7 h _ _ _ _ _ _ _ _ (by omega) 12 _ (by omega) (by omega) (by omega)
 ·rfl
def Al (n a : Int) (ps : LL) (v : Int) (rs s rv sv : LL) : Bool := decide (n = 0) && (decide (a = 0) && (ps.isEmpty && (decide (v = 0) && (rs.isEmpty && (s.isEmpty && (rv.isEmpty && sv.isEmpty))))))
noncomputable def pU (n a : Int) (ps : LL) (v : Int) (rs s rv : LL) (sy : Int) (sv : LL) : Bool :=
 bif decide (sy = -1) then Al n a ps v rs s rv sv else (within sy 0 10000 && (vI n a ps v rs && (vJ s && (vK rv && (decide (ln sv ≤ 8) && sv.all (mg ps v rs s sy))))))
theorem n9 {x : List U} {xs : LL} : decide (ln (x :: xs) = ln []) = false := decide_eq_false (by show ¬ (((xs.length + 1 : Nat)) : Int) = 0; omega)
theorem SY (xs : LL) : mq.c xs [] = rB xs.isEmpty := by
 rw [mq.eq]
 cases xs with
 | nil => show mq.l0 [] [] 0 = _; rw [mq.ah]; rfl
 | cons x xs => rw [n9]; rfl
theorem SZ (xs : LL) : mj.c xs [] = rB xs.isEmpty := by
 rw [mj.eq]
 cases xs with
 | nil => show mj.l0 [] [] 0 = _; rw [mj.ah]; rfl
 | cons x xs => rw [n9]; rfl
theorem S1 (xs : LL) : ml.c xs [] = rB xs.isEmpty := by
 rw [ml.eq]
 cases xs with
 | nil => show ml.l0 [] [] 0 = _; rw [ml.ah]; rfl
 | cons x xs => rw [n9]; rfl
theorem S2 (xs : LL) : mm.c xs [] = rB xs.isEmpty := by
 rw [mm.eq]
 cases xs with
 | nil => show mm.l0 [] [] 0 = _; rw [mm.ah]; rfl
 | cons x xs => rw [n9]; rfl
theorem S3 (v : Int) (xs : LL) : mu.c v xs 0 [] = rB (decide (v = 0) && xs.isEmpty) := by
 rw [mu.eq]
 cases decide (v = 0)
 ·rfl
 cases xs with
 | nil => show mu.l0 0 v [] 0 [] = _; rw [mu.ah]; rfl
 | cons x xs => rw [n9]; rfl
theorem S4 (xs : LL) : mw.c xs [] = rB xs.isEmpty := by
 rw [mw.eq]
 cases xs with
 | nil => show mw.l0 [] [] 0 0 = _; rw [mw.ah]; rfl
 | cons x xs => rw [n9]; rfl
theorem S5 (xs : LL) : my.c xs [] = rB xs.isEmpty := by
 rw [my.eq]
 cases xs with
 | nil => show my.l0 [] [] 0 0 = _; rw [my.ah]; rfl
 | cons x xs => rw [n9]; rfl
theorem S6 (xs : LL) : mn.c xs [] = rB xs.isEmpty := by
 rw [mn.eq]
 cases xs with
 | nil => show mn.l0 [] [] 0 0 = _; rw [mn.ah]; rfl
 | cons x xs => rw [n9]; rfl
theorem S7 (xs : LL) : mo.c xs [] = rB xs.isEmpty := by
 rw [mo.eq]
 cases xs with
 | nil => show mo.l0 [] [] 0 0 = _; rw [mo.ah]; rfl
 | cons x xs => rw [n9]; rfl
theorem S8 (xs : LL) : mz.c xs [] = rB xs.isEmpty := by
 rw [mz.eq]
 cases xs with
 | nil => show mz.l0 [] [] 0 0 = _; rw [mz.ah]; rfl
 | cons x xs => rw [n9]; rfl
theorem S9 (i n a : Int) (ps : LL) (v : Int) (rs s rv sv : LL) : tZ.c i n a ps v rs s rv (-1) sv i 0 0 [] 0 [] [] [] (-1) [] = rB (Al n a ps v rs s rv sv) := by
 simp only [tZ.eq, Bf.eq, SY, SZ, S1, S2, S3, q0, qb, cB, cJ, decide_true, cond_true, Bool.true_and]
 unfold Al
 simp only [Bool.and_assoc]
theorem Ta (i n a : Int) (ps : LL) (v : Int) (rs s rv sv : LL) : ue.c i n a ps v rs s rv (-1) sv i 0 0 [] 0 [] [] [] (-1) [] = rB (Al n a ps v rs s rv sv) := by
 simp only [ue.eq, Bh.eq, Bi.eq, Bl.eq, S4, S5, S6, S7, S8, q0, qb, cB, cJ, decide_true, cond_true, Bool.true_and]
 unfold Al
 simp only [Bool.and_assoc]
theorem Nx {i n a : Int} {ps : LL} {v : Int} {rs s rv : LL} {sy : Int} {sv : LL} (h : qX ps rs s rv sv) : km.c i n a ps v rs s rv sy sv = rB (pU n a ps v rs s rv sy sv) := by
 rw [km.eq, Bc.eq]
 unfold pU
 by_cases hs : sy = -1
 ·subst hs
  show ((tZ.c i n a ps v rs s rv (-1) sv i 0 0 [] 0 [] [] [] (-1) []).bind _) = _
  rw [S9]; rfl
 ·rw [decide_eq_false hs]
  show km.l0 0 i n a ps v rs s rv sy sv = rB _
  have hp := h
  obtain ⟨p1, p2, p3, p4, p5⟩ := h
  refine (ou (l0 := fun j => km.l0 j i n a ps v rs s rv sy sv) (n := sv.length) (p := fun j => mg ps v rs s sy (sv.getD j [])) (F := rB false) (R := rB (within sy 0 10000 && (vI n a ps v rs && (vJ s && (vK rv && decide (ln sv ≤ 8)))))) ?_ fun j hj => ?_).trans ?_
  ·rw [km.ah, aQ (Nat.le_refl _), jj, KY n a ps v rs (by omega) (by omega), K2 s (by omega), K3 rv (by omega)]
   simp only [q0, qb, cB, cJ, cond_false]; rfl
  ·rw [km.ah, aR hj, bo hj, bH (by omega)]
   show ((ku.c i n a ps v rs s rv sy sv (ui (sv.getD j []) 0) (ui (sv.getD j []) 1) (ui (sv.getD j []) 2) (ui (sv.getD j []) 3) (ui (sv.getD j []) 4) (ui (sv.getD j []) 5) (ui (sv.getD j []) 6) (ui (sv.getD j []) 7)).bind _) = _
   rw [SW hp]
   show (bif !mg ps v rs s sy (sv.getD j []) then _ else _) = _
   rw [gL]
  ·rw [nF sv [] (mg ps v rs s sy)]
   cases sv.all (mg ps v rs s sy)
   ·simp
   ·simp
theorem NA {i n a : Int} {ps : LL} {v : Int} {rs s rv : LL} {sy : Int} {sv : LL} (h : qX ps rs s rv sv) : xz.c i n a ps v rs s rv sy sv = rB (pU n a ps v rs s rv sy sv) := by
 rw [xz.eq, Bd.eq]
 unfold pU
 by_cases hs : sy = -1
 ·subst hs
  show ((ue.c i n a ps v rs s rv (-1) sv i 0 0 [] 0 [] [] [] (-1) []).bind _) = _
  rw [Ta]; rfl
 ·rw [decide_eq_false hs]
  have hp := h
  obtain ⟨p1, p2, p3, p4, p5⟩ := h
  have Dw : lK.c sv i n a ps v rs s rv sy sv = rI (pos (fun j => !mg ps v rs s sy (sv.getD j [])) sv.length 0) := by
   rw [lK.eq]
   refine kj (l0 := fun j => lK.l0 sv i n a ps v rs s rv sy sv _ j) (n := sv.length) (p := fun j => !mg ps v rs s sy (sv.getD j [])) ?_ fun j hj => ?_
   ·rw [lK.ah, aQ (Nat.le_refl _)]; rfl
   ·rw [lK.ah, aR hj, bo hj, bH (by omega), Bn.eq]
    show (((kE.c i n a ps v rs s rv sy sv (ui (sv.getD j []) 0) (ui (sv.getD j []) 1) (ui (sv.getD j []) 2) (ui (sv.getD j []) 3) (ui (sv.getD j []) 4) (ui (sv.getD j []) 5) (ui (sv.getD j []) 6) (ui (sv.getD j []) 7)).bind _).bind _) = _
    rw [SX hp]; rfl
  rw [lf, K0 n a ps v rs (by omega) (by omega), K4 s (by omega), K5 rv (by omega), Be.eq, Dw]
  simp only [q0, qb, qi, cB, cJ, cond_false]
  show rB (within sy 0 10000 && (vI n a ps v rs && (vJ s && (vK rv && (decide (ln sv ≤ 8) && !(decide (pos (fun j => !mg ps v rs s sy (sv.getD j [])) sv.length 0 ≥ 0))))))) = _
  rw [nH fun x => !mg ps v rs s sy x]
  congr 6
  rw [List.all_eq_not_any_not]
end Go.Proofs.YtbanfmadialnkaaGreat.Eng
/- half -/
