/- Pairs of roles, epochs, centers, points, worlds that are valid. -/
import Derived.Test.YteahcmobjegpnaaGreatPC2
namespace Go.Proofs.YteahcmobjegpnaaGreat.Eng
open Go.RowKit
set_option linter.unusedVariables false
set_option linter.unusedSimpArgs false
set_option linter.unusedSectionVars false
set_option maxRecDepth 100000
variable [Sm]
/-! ### Pairs -/
noncomputable def pairS (l : LL) (x : List U) : Bool := okP x && !has (under l (ui x 1)) (ui x 0)
noncomputable def pairI (l : LL) (x : List U) : Bool := okP x && !rc1 l (ui x 0).toNat (ui x 0).toNat
noncomputable def arePairs (xs : LL) : Bool := xs.all (pairI xs) && decide (ln xs ≤ 10)
theorem okP_eq (x : List U) : okP x = (within (ui x 0) 0 5 && within (ui x 1) 0 5) := rfl
theorem under_has {l : LL} {b : Int} {k : Nat} (hk : k < 6) (hb : within b 0 5 = true) : has (under l b) (k : Int) = rch l b.toNat k := by
  have h1 := under_mem (l := l) (role := b) hk
  rw [hb, decide_eq_true hk] at h1
  rw [Bool.eq_iff_iff]
  unfold has
  rw [List.any_eq_true]
  have h1 : [U.int (k : Int)] ∈ under l b ↔ rch l b.toNat k = true := h1
  rw [← h1]
  constructor
  · rintro ⟨x, hx, hv⟩
    obtain ⟨j, hj, rfl⟩ := under_el hx
    have hv : (j : Int) = (k : Int) := of_decide_eq_true hv
    have : j = k := by omega
    subst this; exact hx
  · intro hx; exact ⟨_, hx, decide_eq_true rfl⟩
theorem pairs_eq (l : LL) : l.all (pairS l) = l.all (pairI l) := by
  classical
  rw [Bool.eq_iff_iff, List.all_eq_true, List.all_eq_true]
  have key : ∀ x, okP x = true → (has (under l (ui x 1)) (ui x 0) = true ↔ Rch l (ui x 1).toNat (ui x 0).toNat) := by
    intro x hx
    obtain ⟨h1, h2, h3, h4⟩ := okP_lt hx
    rw [okP_eq, Bool.and_eq_true] at hx
    rw [h1, under_has h2 hx.2]
    simp [rch]
    rw [Int.max_eq_left (by omega)]
  constructor
  · intro h x hx
    have h1 := h x hx
    unfold pairS at h1
    unfold pairI
    rw [Bool.and_eq_true] at h1 ⊢
    refine ⟨h1.1, ?_⟩
    cases hr : rc1 l (ui x 0).toNat (ui x 0).toNat
    · rfl
    · have hr : Rc1 l (ui x 0).toNat (ui x 0).toNat := by simpa [rc1] using hr
      obtain ⟨b, ⟨y, hy, ho, e1, e2⟩, h3⟩ := hr.first
      have h4 := h y hy
      unfold pairS at h4
      rw [Bool.and_eq_true] at h4
      have h5 := (key y ho).2 (by rw [e2, e1]; exact h3)
      rw [h5] at h4
      exact h4.2
  · intro h x hx
    have h1 := h x hx
    unfold pairI at h1
    unfold pairS
    rw [Bool.and_eq_true] at h1 ⊢
    refine ⟨h1.1, ?_⟩
    cases hr : has (under l (ui x 1)) (ui x 0)
    · rfl
    · have h3 := (key x h1.1).1 hr
      have : Rc1 l (ui x 0).toNat (ui x 0).toNat := Rc1.of_first ⟨x, hx, h1.1, rfl, rfl⟩ h3
      have h4 : rc1 l (ui x 0).toNat (ui x 0).toNat = true := by simpa [rc1] using this
      rw [h4] at h1
      exact h1.2
theorem s_pairs (xs : LL) (hx : xs.length ≤ 1048576) : spec_ArePairs.c xs = rB (arePairs xs) := by
  unfold arePairs
  rw [← pairs_eq, spec_ArePairs.eq]
  refine (all_loop2 (l0 := fun i => spec_ArePairs.l0 xs i) (n := xs.length) (p := fun i => pairS xs (xs.getD i [])) (b := decide (ln xs ≤ 10)) ?_ fun i hi => ?_).trans (by rw [range_all xs [] (pairS xs)])
  · rw [spec_ArePairs.l0_eq, not_lt_nat (Nat.le_refl _)]; rfl
  · have hu := under_len xs (ui (xs.getD i []) 1)
    rw [spec_ArePairs.l0_eq, lt_nat hi, in_nat hi, w64_nat (by omega), s_in, s_in, s_under xs (by omega)]
    simp only [q0, qb, ql, gt_, cond_true]
    rw [s_has _ (show (under xs (gi xs (i : Int) 1)).length ≤ _ from Nat.le_trans hu (by omega))]
    show (bif !within (ui (xs.getD i []) 0) 0 5 then _ else bif !within (ui (xs.getD i []) 1) 0 5 then _ else bif has (under xs (ui (xs.getD i []) 1)) (ui (xs.getD i []) 0) then _ else _) = _
    unfold pairS
    rw [okP_eq]
    simp only [cand, cnot]
theorem i_pairs (xs : LL) (hx : xs.length ≤ 1048576) : impl_ArePairs.c xs = rB (arePairs xs) := by
  unfold arePairs
  rw [impl_ArePairs.eq]
  refine (all_loop2 (l0 := fun i => impl_ArePairs.l0 xs xs _ i) (n := xs.length) (p := fun i => pairI xs (xs.getD i [])) (b := decide (ln xs ≤ 10)) ?_ fun i hi => ?_).trans (by rw [range_all xs [] (pairI xs)])
  · rw [impl_ArePairs.l0_eq, not_lt_nat (Nat.le_refl _)]; rfl
  · rw [impl_ArePairs.l0_eq, lt_nat hi, in_nat hi, w64_nat (by omega), i_role, i_role]
    show (bif !within (ui (xs.getD i []) 0) 0 5 then _ else bif !within (ui (xs.getD i []) 1) 0 5 then _ else (impl_below.c xs (ui (xs.getD i []) 0)).bind _) = _
    unfold pairI
    rw [okP_eq]
    cases h0 : within (ui (xs.getD i []) 0) 0 5
    · rfl
    cases within (ui (xs.getD i []) 1) 0 5
    · rfl
    obtain ⟨h1, h2⟩ := within_inv h0
    generalize hz : ui (xs.getD i []) 0 = z at h1 h2
    obtain ⟨r, rfl⟩ := Int.eq_ofNat_of_zero_le h1
    rw [below_ok xs r (by omega) (by omega)]
    have hz' : gi xs (i : Int) 0 = (r : Int) := hz
    show grd (inRange (gi xs (i : Int) 0) 6) (bif [rc1 xs r 0, rc1 xs r 1, rc1 xs r 2, rc1 xs r 3, rc1 xs r 4, rc1 xs r 5].getD (gi xs (i : Int) 0).toNat false then _ else _) = _
    rw [hz', in_nat (show r < 6 by omega), gt_, Int.toNat_natCast, bools6 _ (show r < 6 by omega)]
    show (bif rc1 xs r r then _ else _) = bif !rc1 xs r r then _ else _
    cases rc1 xs r r <;> rfl
/-! ### Epochs -/
noncomputable def isEpoch (n a : Int) (ps : LL) (v : Int) (rs : LL) : Bool := within n 0 999 && (within a 0 10000 && (arePairs ps && (isPolicy v rs && decide (v = n))))
theorem s_epoch (n a : Int) (ps : LL) (v : Int) (rs : LL) (hp : ps.length ≤ 1048576) (hr : cntRs rs ≤ 1099511627776) : spec_IsEpoch.c n a ps v rs = rB (isEpoch n a ps v rs) := by
  simp only [spec_IsEpoch.eq, s_in, s_time, s_pairs ps hp, s_policy v rs hr, q0, qb, cB, ctf]; rfl
theorem i_epoch (n a : Int) (ps : LL) (v : Int) (rs : LL) (hp : ps.length ≤ 1048576) (hr : cntRs rs ≤ 1099511627776) : impl_IsEpoch.c n a ps v rs = rB (isEpoch n a ps v rs) := by
  simp only [impl_IsEpoch.eq, i_in, i_time, i_pairs ps hp, i_policy v rs hr, q0, qb, cB, ctf]; rfl
noncomputable def okEp (x : List U) : Bool := isEpoch (ui x 0) (ui x 1) (ul x 2) (ui x 3) (ul x 4)
def upE (a b : List U) : Bool := decide (v0 a ≥ v0 b) || decide (ui a 1 > ui b 1)
noncomputable def areEpochs (xs : LL) : Bool := ordered okEp upE xs && decide (ln xs ≤ 6)
def EpsOk (xs : LL) : Prop := xs.length ≤ 1048576 ∧ ∀ x ∈ xs, (ul x 2).length ≤ 1048576 ∧ cntRs (ul x 4) ≤ 1099511627776
theorem s_epochs (xs : LL) (h : EpsOk xs) : spec_AreEpochs.c xs = rB (areEpochs xs) := by
  obtain ⟨hx, hs⟩ := h
  rw [spec_AreEpochs.eq]
  refine all_loop2 (l0 := fun i => spec_AreEpochs.l0 xs i) (n := xs.length) (p := fun i => okEp (xs.getD i []) && adj upE xs i) (b := decide (ln xs ≤ 6)) ?_ fun i hi => ?_
  · rw [spec_AreEpochs.l0_eq, not_lt_nat (Nat.le_refl _)]; rfl
  · have hm := hs _ (getD_mem hi (z := []))
    rw [spec_AreEpochs.l0_eq, lt_nat hi, in_nat hi, w64_nat (by omega), s_epoch _ _ (gl xs (i : Int) 2) _ (gl xs (i : Int) 4) hm.1 hm.2]
    show (bif !okEp (xs.getD i []) then _ else _) = bif okEp (xs.getD i []) && adj upE xs i then _ else rB false
    cases okEp (xs.getD i [])
    · rfl
    cases i with
    | zero => rfl
    | succ i =>
      rw [w_pred (by omega), in_nat (show i < xs.length by omega), pos_succ]
      show (bif decide (v0 (xs.getD i []) ≥ v0 (xs.getD (i + 1) [])) then _ else bif decide (ui (xs.getD i []) 1 > ui (xs.getD (i + 1) []) 1) then _ else _) = bif !(decide (v0 (xs.getD i []) ≥ v0 (xs.getD (i + 1) [])) || decide (ui (xs.getD i []) 1 > ui (xs.getD (i + 1) []) 1)) then _ else rB false
      cases decide (v0 (xs.getD i []) ≥ v0 (xs.getD (i + 1) [])) <;> cases decide (ui (xs.getD i []) 1 > ui (xs.getD (i + 1) []) 1) <;> rfl
theorem i_epochs (xs : LL) (h : EpsOk xs) : impl_AreEpochs.c xs = rB (areEpochs xs) := by
  obtain ⟨hx, hs⟩ := h
  rw [impl_AreEpochs.eq]
  refine all_loop2 (l0 := fun i => impl_AreEpochs.l0 xs xs _ i) (n := xs.length) (p := fun i => okEp (xs.getD i []) && adj upE xs i) (b := decide (ln xs ≤ 6)) ?_ fun i hi => ?_
  · rw [impl_AreEpochs.l0_eq, not_lt_nat (Nat.le_refl _)]; rfl
  · have hm := hs _ (getD_mem hi (z := []))
    rw [impl_AreEpochs.l0_eq, lt_nat hi, in_nat hi, w64_nat (by omega), i_epoch _ _ (gl xs (i : Int) 2) _ (gl xs (i : Int) 4) hm.1 hm.2]
    show (bif !okEp (xs.getD i []) then _ else _) = bif okEp (xs.getD i []) && adj upE xs i then _ else rB false
    cases okEp (xs.getD i [])
    · rfl
    cases i with
    | zero => rfl
    | succ i =>
      rw [w_pred (by omega), in_nat (show i < xs.length by omega), pos_succ]
      show (bif decide (v0 (xs.getD i []) ≥ v0 (xs.getD (i + 1) [])) then _ else bif decide (ui (xs.getD i []) 1 > ui (xs.getD (i + 1) []) 1) then _ else _) = bif !(decide (v0 (xs.getD i []) ≥ v0 (xs.getD (i + 1) [])) || decide (ui (xs.getD i []) 1 > ui (xs.getD (i + 1) []) 1)) then _ else rB false
      cases decide (v0 (xs.getD i []) ≥ v0 (xs.getD (i + 1) [])) <;> cases decide (ui (xs.getD i []) 1 > ui (xs.getD (i + 1) []) 1) <;> rfl
/-! ### Centers -/
def certOk (k : Int) (i : Nat) (x : List U) : Bool := decide (ui x 0 = ((i + 1 : Nat) : Int)) && (isCert (ui x 0) (ui x 1) (ui x 2) (ui x 3) (ui x 4) && decide (certMark k (ui x 0) (ui x 1) (ui x 2) (ui x 3) (ui x 4) = ui x 5))
noncomputable def isCenter (is es s rv : LL) (k : Int) (cs : LL) : Bool := (List.range cs.length).all (fun i => certOk k i (cs.getD i [])) && (areIss is && (areEpochs es && (isStore s && (areRev rv && (within k 1 2147483646 && decide (ln cs ≤ 20))))))
structure CtOk (is es s rv cs : LL) : Prop where
  i1 : is.length ≤ 1048576
  i2 : ∀ x ∈ is, (ul x 1).length ≤ 1048576
  e : EpsOk es
  s : s.length ≤ 1048576
  r : rv.length ≤ 1048576
  c : cs.length ≤ 1048576
theorem s_center {is es s rv cs : LL} (h : CtOk is es s rv cs) (k : Int) : spec_IsCenter.c is es s rv k cs = rB (isCenter is es s rv k cs) := by
  obtain ⟨h1, h2, h3, h4, h5, h6⟩ := h
  rw [spec_IsCenter.eq]
  refine all_loop2 (l0 := fun i => spec_IsCenter.l0 i is es s rv k cs) (n := cs.length) (p := fun i => certOk k i (cs.getD i [])) (b := areIss is && (areEpochs es && (isStore s && (areRev rv && (within k 1 2147483646 && decide (ln cs ≤ 20)))))) ?_ fun i hi => ?_
  · rw [spec_IsCenter.l0_eq, not_lt_nat (Nat.le_refl _), s_areIss is h1 h2, s_epochs es h3, s_store s h4, s_areRev rv h5, s_key]
    simp only [q0, qb, cB, ctf, cond_false]; rfl
  · rw [spec_IsCenter.l0_eq, lt_nat hi, in_nat hi, w64_nat (by omega), s_cert, s_mark]
    show (bif !decide (ui (cs.getD i []) 0 = ((i + 1 : Nat) : Int)) then _ else bif !isCert (ui (cs.getD i []) 0) (ui (cs.getD i []) 1) (ui (cs.getD i []) 2) (ui (cs.getD i []) 3) (ui (cs.getD i []) 4) then _ else bif !(decide (ui (cs.getD i []) 0 = ui (cs.getD i []) 0) && (decide (ui (cs.getD i []) 1 = ui (cs.getD i []) 1) && (decide (ui (cs.getD i []) 2 = ui (cs.getD i []) 2) && (decide (ui (cs.getD i []) 3 = ui (cs.getD i []) 3) && (decide (ui (cs.getD i []) 4 = ui (cs.getD i []) 4) && (decide (certMark k (ui (cs.getD i []) 0) (ui (cs.getD i []) 1) (ui (cs.getD i []) 2) (ui (cs.getD i []) 3) (ui (cs.getD i []) 4) = ui (cs.getD i []) 5) && true)))))) then _ else _) = _
    simp only [certOk, cand, cnot, decide_true, Bool.and_true, Bool.true_and]
theorem i_center {is es s rv cs : LL} (h : CtOk is es s rv cs) (k : Int) : impl_IsCenter.c is es s rv k cs = rB (isCenter is es s rv k cs) := by
  obtain ⟨h1, h2, h3, h4, h5, h6⟩ := h
  rw [impl_IsCenter.eq]
  refine all_loop2 (l0 := fun i => impl_IsCenter.l0 cs (ln cs) i is es s rv k cs) (n := cs.length) (p := fun i => certOk k i (cs.getD i [])) (b := areIss is && (areEpochs es && (isStore s && (areRev rv && (within k 1 2147483646 && decide (ln cs ≤ 20)))))) ?_ fun i hi => ?_
  · rw [impl_IsCenter.l0_eq, not_lt_nat (Nat.le_refl _), i_areIss is h1 h2, i_epochs es h3, i_store s h4, i_areRev rv h5, i_key]
    simp only [q0, qb, cB, ctf, cond_false]; rfl
  · rw [impl_IsCenter.l0_eq, lt_nat hi, in_nat hi, w64_nat (by omega), i_cert, i_mark]
    show (bif !decide (ui (cs.getD i []) 0 = ((i + 1 : Nat) : Int)) then _ else bif !isCert (ui (cs.getD i []) 0) (ui (cs.getD i []) 1) (ui (cs.getD i []) 2) (ui (cs.getD i []) 3) (ui (cs.getD i []) 4) then _ else bif !(decide (ui (cs.getD i []) 0 = ui (cs.getD i []) 0) && (decide (ui (cs.getD i []) 1 = ui (cs.getD i []) 1) && (decide (ui (cs.getD i []) 2 = ui (cs.getD i []) 2) && (decide (ui (cs.getD i []) 3 = ui (cs.getD i []) 3) && (decide (ui (cs.getD i []) 4 = ui (cs.getD i []) 4) && (decide (certMark k (ui (cs.getD i []) 0) (ui (cs.getD i []) 1) (ui (cs.getD i []) 2) (ui (cs.getD i []) 3) (ui (cs.getD i []) 4) = ui (cs.getD i []) 5) && true)))))) then _ else _) = _
    simp only [certOk, cand, cnot, decide_true, Bool.and_true, Bool.true_and]
/-! ### Points -/
def decAll (dec : Int → Int) (c u : Int) : Nat → Int → Bool
  | 0, _ => true
  | k + 1, t => bif decide (t ≤ u) then (decide (dec t = c) && decAll dec c u k (t + 1)) else true
noncomputable def trueS (ps : LL) (v : Int) (rs s : LL) (sy : Int) (x : List U) : Bool :=
  isReq (ui x 0) (ui x 1) (ui x 2) (ui x 3) (ui x 4) (ui x 5) && (!decide (ui x 5 < sy) && (within (ui x 7) (ui x 5) (ui x 5 + 10) && decAll (fun t => decideBy ps s v rs (ui x 0) (ui x 1) (ui x 2) (ui x 3) (ui x 4) t) (ui x 6) (ui x 7) 12 (ui x 5)))
theorem s_t0 {i n a : Int} {ps : LL} {v : Int} {rs s rv : LL} {sy : Int} {sv : LL} (h : PtOk ps rs s rv sv) (p d g ac o q c u : Int) (hu : u ≤ 20000) : ∀ (k : Nat) (t : Int), u < t + k → -1 ≤ t → t ≤ 20001 →
    spec_l27True.l0 t i n a ps v rs s rv sy sv p d g ac o q c u = rB (decAll (fun t => decideBy ps s v rs p d g ac o t) c u k t)
  | 0, t, h1, h2, h3 => by
    rw [spec_l27True.l0_eq, decide_eq_false (by omega)]; rfl
  | k + 1, t, h1, h2, h3 => by
    have ih := fun hh => s_t0 (i := i) (n := n) (a := a) (v := v) (sy := sy) (sv := sv) h p d g ac o q c u hu k (t + 1) (by omega) (by omega) hh
    obtain ⟨p1, p2, p3, p4, p5⟩ := h
    rw [spec_l27True.l0_eq, spec_AtTime.eq]
    unfold decAll
    cases ht : decide (t ≤ u)
    · rfl
    · have ht := of_decide_eq_true ht
      show ((spec_DecideBy.c ps s v rs p d g ac o t).bind _) = _
      rw [s_decide ps s v rs (by omega) (by omega) (by omega), w64_id (n := t + 1) (by omega) (by omega), ih (by omega)]
      show (bif !decide (decideBy ps s v rs p d g ac o t = c) then _ else _) = rB (decide (decideBy ps s v rs p d g ac o t = c) && _)
      cases decide (decideBy ps s v rs p d g ac o t = c) <;> rfl
theorem i_t0 {i n a : Int} {ps : LL} {v : Int} {rs s rv : LL} {sy : Int} {sv : LL} (h : PtOk ps rs s rv sv) (p d g ac o q c u : Int) (hu : u ≤ 20000) : ∀ (k : Nat) (t : Int), u < t + k → -1 ≤ t → t ≤ 20001 →
    impl_isTrueSaved.l0 t i n a ps v rs s rv sy sv p d g ac o q c u = rB (decAll (fun t => decideBy ps s v rs p d g ac o t) c u k t)
  | 0, t, h1, h2, h3 => by
    rw [impl_isTrueSaved.l0_eq, decide_eq_false (by omega)]; rfl
  | k + 1, t, h1, h2, h3 => by
    have ih := fun hh => i_t0 (i := i) (n := n) (a := a) (v := v) (sy := sy) (sv := sv) h p d g ac o q c u hu k (t + 1) (by omega) (by omega) hh
    obtain ⟨p1, p2, p3, p4, p5⟩ := h
    rw [impl_isTrueSaved.l0_eq, impl_AtTime.eq]
    unfold decAll
    cases ht : decide (t ≤ u)
    · rfl
    · have ht := of_decide_eq_true ht
      show ((impl_DecideBy.c ps s v rs p d g ac o t).bind _) = _
      rw [i_decide ps s v rs (by omega) (by omega) (by omega), w64_id (n := t + 1) (by omega) (by omega), ih (by omega)]
      show (bif !decide (decideBy ps s v rs p d g ac o t = c) then _ else _) = rB (decide (decideBy ps s v rs p d g ac o t = c) && _)
      cases decide (decideBy ps s v rs p d g ac o t = c) <;> rfl
theorem s_true {i n a : Int} {ps : LL} {v : Int} {rs s rv : LL} {sy : Int} {sv : LL} (h : PtOk ps rs s rv sv) (x : List U) : spec_l27True.c i n a ps v rs s rv sy sv (ui x 0) (ui x 1) (ui x 2) (ui x 3) (ui x 4) (ui x 5) (ui x 6) (ui x 7) = rB (trueS ps v rs s sy x) := by
  rw [spec_l27True.eq, s_req]
  unfold trueS
  show (bif !isReq (ui x 0) (ui x 1) (ui x 2) (ui x 3) (ui x 4) (ui x 5) then _ else _) = _
  cases hq : isReq (ui x 0) (ui x 1) (ui x 2) (ui x 3) (ui x 4) (ui x 5)
  · rfl
  have hb := req_bd hq
  rw [w64_id (n := ui x 5 + 10) (by omega) (by omega)]
  show (bif decide (ui x 5 < sy) then _ else _) = _
  cases decide (ui x 5 < sy)
  · by_cases h1 : ui x 7 < ui x 5
    · rw [decide_eq_true h1]
      have : within (ui x 7) (ui x 5) (ui x 5 + 10) = false := by unfold within; rw [decide_eq_false (by omega)]; rfl
      rw [this]; rfl
    · rw [decide_eq_false h1]
      by_cases h2 : ui x 7 > ui x 5 + 10
      · rw [decide_eq_true h2]
        have : within (ui x 7) (ui x 5) (ui x 5 + 10) = false := by unfold within; rw [decide_eq_false (show ¬ ui x 7 ≤ ui x 5 + 10 by omega), Bool.and_false]
        rw [this]; rfl
      · rw [decide_eq_false h2, within_of (by omega) (by omega)]
        exact s_t0 h _ _ _ _ _ _ _ _ (by omega) 12 _ (by omega) (by omega) (by omega)
  · rfl
theorem i_true {i n a : Int} {ps : LL} {v : Int} {rs s rv : LL} {sy : Int} {sv : LL} (h : PtOk ps rs s rv sv) (x : List U) : impl_isTrueSaved.c i n a ps v rs s rv sy sv (ui x 0) (ui x 1) (ui x 2) (ui x 3) (ui x 4) (ui x 5) (ui x 6) (ui x 7) = rB (trueS ps v rs s sy x) := by
  rw [impl_isTrueSaved.eq, i_req]
  unfold trueS
  show (bif !isReq (ui x 0) (ui x 1) (ui x 2) (ui x 3) (ui x 4) (ui x 5) then _ else _) = _
  cases hq : isReq (ui x 0) (ui x 1) (ui x 2) (ui x 3) (ui x 4) (ui x 5)
  · rfl
  have hb := req_bd hq
  rw [w64_id (n := ui x 5 + 10) (by omega) (by omega), i_in]
  show (bif decide (ui x 5 < sy) then _ else bif !within (ui x 7) (ui x 5) (ui x 5 + 10) then _ else _) = _
  cases decide (ui x 5 < sy)
  · cases hw : within (ui x 7) (ui x 5) (ui x 5 + 10)
    · rfl
    · obtain ⟨h1, h2⟩ := within_inv hw
      exact i_t0 h _ _ _ _ _ _ _ _ (by omega) 12 _ (by omega) (by omega) (by omega)
  · rfl
def newP (n a : Int) (ps : LL) (v : Int) (rs s rv sv : LL) : Bool := decide (n = 0) && (decide (a = 0) && (ps.isEmpty && (decide (v = 0) && (rs.isEmpty && (s.isEmpty && (rv.isEmpty && sv.isEmpty))))))
noncomputable def isPoint (n a : Int) (ps : LL) (v : Int) (rs s rv : LL) (sy : Int) (sv : LL) : Bool :=
  bif decide (sy = -1) then newP n a ps v rs s rv sv else (within sy 0 10000 && (isEpoch n a ps v rs && (isStore s && (areRev rv && (decide (ln sv ≤ 8) && sv.all (trueS ps v rs s sy))))))
theorem nil_ln {x : List U} {xs : LL} : decide (ln (x :: xs) = ln []) = false := decide_eq_false (by show ¬ (((xs.length + 1 : Nat)) : Int) = 0; omega)
theorem s_e24 (xs : LL) : spec_l24Pairs.c xs [] = rB xs.isEmpty := by
  rw [spec_l24Pairs.eq]
  cases xs with
  | nil => show spec_l24Pairs.l0 [] [] 0 = _; rw [spec_l24Pairs.l0_eq]; rfl
  | cons x xs => rw [nil_ln]; rfl
theorem s_eSt (xs : LL) : spec_EqualStores.c xs [] = rB xs.isEmpty := by
  rw [spec_EqualStores.eq]
  cases xs with
  | nil => show spec_EqualStores.l0 [] [] 0 = _; rw [spec_EqualStores.l0_eq]; rfl
  | cons x xs => rw [nil_ln]; rfl
theorem s_eRv (xs : LL) : spec_l27Revoked.c xs [] = rB xs.isEmpty := by
  rw [spec_l27Revoked.eq]
  cases xs with
  | nil => show spec_l27Revoked.l0 [] [] 0 = _; rw [spec_l27Revoked.l0_eq]; rfl
  | cons x xs => rw [nil_ln]; rfl
theorem s_eSv (xs : LL) : spec_l27Saved.c xs [] = rB xs.isEmpty := by
  rw [spec_l27Saved.eq]
  cases xs with
  | nil => show spec_l27Saved.l0 [] [] 0 = _; rw [spec_l27Saved.l0_eq]; rfl
  | cons x xs => rw [nil_ln]; rfl
theorem s_ePo (v : Int) (xs : LL) : spec_EqualPolicies.c v xs 0 [] = rB (decide (v = 0) && xs.isEmpty) := by
  rw [spec_EqualPolicies.eq]
  cases decide (v = 0)
  · rfl
  cases xs with
  | nil => show spec_EqualPolicies.l0 0 v [] 0 [] = _; rw [spec_EqualPolicies.l0_eq]; rfl
  | cons x xs => rw [nil_ln]; rfl
theorem i_eIn (xs : LL) : slices_Equal_Includes.c xs [] = rB xs.isEmpty := by
  rw [slices_Equal_Includes.eq]
  cases xs with
  | nil => show slices_Equal_Includes.l0 [] [] 0 0 = _; rw [slices_Equal_Includes.l0_eq]; rfl
  | cons x xs => rw [nil_ln]; rfl
theorem i_eFa (xs : LL) : slices_Equal_Fact.c xs [] = rB xs.isEmpty := by
  rw [slices_Equal_Fact.eq]
  cases xs with
  | nil => show slices_Equal_Fact.l0 [] [] 0 0 = _; rw [slices_Equal_Fact.l0_eq]; rfl
  | cons x xs => rw [nil_ln]; rfl
theorem i_eRv (xs : LL) : slices_Equal_Revoked.c xs [] = rB xs.isEmpty := by
  rw [slices_Equal_Revoked.eq]
  cases xs with
  | nil => show slices_Equal_Revoked.l0 [] [] 0 0 = _; rw [slices_Equal_Revoked.l0_eq]; rfl
  | cons x xs => rw [nil_ln]; rfl
theorem i_eSv (xs : LL) : slices_Equal_Saved.c xs [] = rB xs.isEmpty := by
  rw [slices_Equal_Saved.eq]
  cases xs with
  | nil => show slices_Equal_Saved.l0 [] [] 0 0 = _; rw [slices_Equal_Saved.l0_eq]; rfl
  | cons x xs => rw [nil_ln]; rfl
theorem i_eRu (xs : LL) : slices_EqualFunc__impl_equalRules.c xs [] = rB xs.isEmpty := by
  rw [slices_EqualFunc__impl_equalRules.eq]
  cases xs with
  | nil => show slices_EqualFunc__impl_equalRules.l0 [] [] 0 0 = _; rw [slices_EqualFunc__impl_equalRules.l0_eq]; rfl
  | cons x xs => rw [nil_ln]; rfl
theorem s_newP (i n a : Int) (ps : LL) (v : Int) (rs s rv sv : LL) : spec_EqualPoints.c i n a ps v rs s rv (-1) sv i 0 0 [] 0 [] [] [] (-1) [] = rB (newP n a ps v rs s rv sv) := by
  simp only [spec_EqualPoints.eq, spec_EqualEpochs.eq, s_e24, s_eSt, s_eRv, s_eSv, s_ePo, q0, qb, cB, ctf, decide_true, cond_true, Bool.true_and]
  unfold newP
  simp only [Bool.and_assoc]
theorem i_newP (i n a : Int) (ps : LL) (v : Int) (rs s rv sv : LL) : impl_EqualPoints.c i n a ps v rs s rv (-1) sv i 0 0 [] 0 [] [] [] (-1) [] = rB (newP n a ps v rs s rv sv) := by
  simp only [impl_EqualPoints.eq, impl_EqualEpochs.eq, impl_EqualStores.eq, impl_EqualPolicies.eq, i_eIn, i_eFa, i_eRv, i_eSv, i_eRu, q0, qb, cB, ctf, decide_true, cond_true, Bool.true_and]
  unfold newP
  simp only [Bool.and_assoc]
theorem s_point {i n a : Int} {ps : LL} {v : Int} {rs s rv : LL} {sy : Int} {sv : LL} (h : PtOk ps rs s rv sv) : spec_IsPoint.c i n a ps v rs s rv sy sv = rB (isPoint n a ps v rs s rv sy sv) := by
  rw [spec_IsPoint.eq, spec_NewPoint.eq]
  unfold isPoint
  by_cases hs : sy = -1
  · subst hs
    show ((spec_EqualPoints.c i n a ps v rs s rv (-1) sv i 0 0 [] 0 [] [] [] (-1) []).bind _) = _
    rw [s_newP]; rfl
  · rw [decide_eq_false hs]
    show spec_IsPoint.l0 0 i n a ps v rs s rv sy sv = rB _
    have hp := h
    obtain ⟨p1, p2, p3, p4, p5⟩ := h
    refine (all_loop3 (l0 := fun j => spec_IsPoint.l0 j i n a ps v rs s rv sy sv) (n := sv.length) (p := fun j => trueS ps v rs s sy (sv.getD j [])) (F := rB false) (R := rB (within sy 0 10000 && (isEpoch n a ps v rs && (isStore s && (areRev rv && decide (ln sv ≤ 8)))))) ?_ fun j hj => ?_).trans ?_
    · rw [spec_IsPoint.l0_eq, not_lt_nat (Nat.le_refl _), s_time, s_epoch n a ps v rs (by omega) (by omega), s_store s (by omega), s_areRev rv (by omega)]
      simp only [q0, qb, cB, ctf, cond_false]; rfl
    · rw [spec_IsPoint.l0_eq, lt_nat hj, in_nat hj, w64_nat (by omega)]
      show ((spec_l27True.c i n a ps v rs s rv sy sv (ui (sv.getD j []) 0) (ui (sv.getD j []) 1) (ui (sv.getD j []) 2) (ui (sv.getD j []) 3) (ui (sv.getD j []) 4) (ui (sv.getD j []) 5) (ui (sv.getD j []) 6) (ui (sv.getD j []) 7)).bind _) = _
      rw [s_true hp]
      show (bif !trueS ps v rs s sy (sv.getD j []) then _ else _) = _
      rw [cnot]
    · rw [range_all sv [] (trueS ps v rs s sy)]
      cases sv.all (trueS ps v rs s sy)
      · simp
      · simp
theorem i_point {i n a : Int} {ps : LL} {v : Int} {rs s rv : LL} {sy : Int} {sv : LL} (h : PtOk ps rs s rv sv) : impl_IsPoint.c i n a ps v rs s rv sy sv = rB (isPoint n a ps v rs s rv sy sv) := by
  rw [impl_IsPoint.eq, impl_NewPoint.eq]
  unfold isPoint
  by_cases hs : sy = -1
  · subst hs
    show ((impl_EqualPoints.c i n a ps v rs s rv (-1) sv i 0 0 [] 0 [] [] [] (-1) []).bind _) = _
    rw [i_newP]; rfl
  · rw [decide_eq_false hs]
    have hp := h
    obtain ⟨p1, p2, p3, p4, p5⟩ := h
    have hix : slices_IndexFunc__impl_IsPoint_1.c sv i n a ps v rs s rv sy sv = rI (pos (fun j => !trueS ps v rs s sy (sv.getD j [])) sv.length 0) := by
      rw [slices_IndexFunc__impl_IsPoint_1.eq]
      refine find_loop (l0 := fun j => slices_IndexFunc__impl_IsPoint_1.l0 sv i n a ps v rs s rv sy sv _ j) (n := sv.length) (p := fun j => !trueS ps v rs s sy (sv.getD j [])) ?_ fun j hj => ?_
      · rw [slices_IndexFunc__impl_IsPoint_1.l0_eq, not_lt_nat (Nat.le_refl _)]; rfl
      · rw [slices_IndexFunc__impl_IsPoint_1.l0_eq, lt_nat hj, in_nat hj, w64_nat (by omega), impl_IsPoint_1.eq]
        show (((impl_isTrueSaved.c i n a ps v rs s rv sy sv (ui (sv.getD j []) 0) (ui (sv.getD j []) 1) (ui (sv.getD j []) 2) (ui (sv.getD j []) 3) (ui (sv.getD j []) 4) (ui (sv.getD j []) 5) (ui (sv.getD j []) 6) (ui (sv.getD j []) 7)).bind _).bind _) = _
        rw [i_true hp]; rfl
    rw [i_time, i_epoch n a ps v rs (by omega) (by omega), i_store s (by omega), i_areRev rv (by omega), slices_ContainsFunc__impl_IsPoint_1.eq, hix]
    simp only [q0, qb, qi, cB, ctf, cond_false]
    show rB (within sy 0 10000 && (isEpoch n a ps v rs && (isStore s && (areRev rv && (decide (ln sv ≤ 8) && !(decide (pos (fun j => !trueS ps v rs s sy (sv.getD j [])) sv.length 0 ≥ 0))))))) = _
    rw [any_pos fun x => !trueS ps v rs s sy x]
    congr 6
    rw [List.all_eq_not_any_not]
end Go.Proofs.YteahcmobjegpnaaGreat.Eng
