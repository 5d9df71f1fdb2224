/- Decisions, saved decisions, copies, and what a point answers. -/
import Derived.Test.YtlknolcgdkhccaaGreatPA7
namespace Go.Proofs.YtlknolcgdkhccaaGreat.Eng
open Go.RowKit
set_option linter.unusedVariables false
set_option linter.unusedSimpArgs false
set_option linter.unusedSectionVars false
set_option maxRecDepth 100000
variable [Sm]
/-- A decision by the rules that hold. -/
def decL (rs idx : LL) : Int := bif idx.any (fun x => decide (gi rs (v0 x) 0 = 0)) then 0 else bif idx.isEmpty then 0 else 1
theorem ln_nil (xs : LL) : decide (ln xs = 0) = xs.isEmpty := by cases xs <;> simp [ln]; omega
theorem s_dec (v : Int) (rs idx : LL) (hi' : idx.length ≤ 4611686018427387904) (h : ∀ x ∈ idx, inRange (v0 x) rs.length = true) : spec_DecideBy.l0 0 v rs idx = rI (decL rs idx) := by
  refine (any_loop3 (l0 := fun i => spec_DecideBy.l0 i v rs idx) (n := idx.length) (p := fun i => decide (gi rs (v0 (idx.getD i [])) 0 = 0)) (F := rI 0) (R := rI (bif idx.isEmpty then 0 else 1)) ?_ fun i hi => ?_).trans ?_
  · rw [spec_DecideBy.l0_eq, not_lt_nat (Nat.le_refl _), ln_nil]
    cases idx.isEmpty <;> rfl
  · have e : gi idx (i : Int) 0 = v0 (idx.getD i []) := rfl
    rw [spec_DecideBy.l0_eq, lt_nat hi, in_nat hi, w64_nat (by omega), e, h _ (getD_mem hi)]; rfl
  · rw [range_any idx [] fun x => decide (gi rs (v0 x) 0 = 0), cI]; rfl
theorem i_dec (v : Int) (rs idx : LL) (hi' : idx.length ≤ 4611686018427387904) (h : ∀ x ∈ idx, inRange (v0 x) rs.length = true ∧ (gi rs (v0 x) 0 = 0 ∨ gi rs (v0 x) 0 = 1)) : impl_decided.c v rs idx = rI (decL rs idx) := by
  have key : ∀ i, i ≤ idx.length → ∀ out : Int, impl_decided.l0 out idx (ln idx) (i : Int) v rs = rI (bif (idx.drop i).any (fun x => decide (gi rs (v0 x) 0 = 0)) then 0 else bif (idx.drop i).isEmpty then out else 1) := by
    refine down idx.length ?_ ?_
    · intro out
      rw [impl_decided.l0_eq, not_lt_nat (Nat.le_refl _), List.drop_length]; rfl
    · intro i hi ih out
      have e : gi idx (i : Int) 0 = v0 (idx.getD i []) := rfl
      obtain ⟨h1, h2⟩ := h _ (getD_mem hi)
      rw [impl_decided.l0_eq, lt_nat hi, in_nat hi, w64_nat (by omega), e, h1, drop_get hi, List.any_cons, gt_, gt_, cond_true]
      rcases h2 with h2 | h2
      · rw [h2]; rfl
      · rw [h2, ih]
        show rI _ = rI _
        rw [show decide ((1 : Int) = 0) = false from rfl, Bool.false_or]
        congr 1
        cases (idx.drop (i + 1)).any _
        · cases (idx.drop (i + 1)).isEmpty <;> rfl
        · rfl
  rw [impl_decided.eq]
  exact key 0 (Nat.zero_le _) 0
noncomputable def decideBy (l s : LL) (v : Int) (rs : LL) (p d g ac ob now : Int) : Int := bif isReq p d g ac ob now then (bif isPolicy v rs then decL rs (holdL l s rs p d g ac ob now) else 0) else 0
theorem holdL_len (l s rs : LL) (p d g ac ob now : Int) : (holdL l s rs p d g ac ob now).length ≤ rs.length := by
  unfold holdL
  rw [List.length_map]; exact Nat.le_trans (List.length_filter_le _ _) (by simp)
theorem holdL_mem {l s rs : LL} {p d g ac ob now : Int} {x : List U} (h : x ∈ holdL l s rs p d g ac ob now) : ∃ i : Nat, i < rs.length ∧ v0 x = (i : Int) := by
  unfold holdL at h
  simp only [List.mem_map, List.mem_filter, List.mem_range] at h
  obtain ⟨i, ⟨h1, _⟩, rfl⟩ := h
  exact ⟨i, h1, rfl⟩
theorem s_decide (l s : LL) (v : Int) (rs : LL) (hl : l.length ≤ 4611686018427387904) (hs : s.length ≤ 4611686018427387904) (hr : cntRs rs ≤ 1099511627776) (p d g ac ob now : Int) : spec_DecideBy.c l s v rs p d g ac ob now = rI (decideBy l s v rs p d g ac ob now) := by
  have hlen := cntRs_length rs
  have hh := holdL_len l s rs p d g ac ob now
  rw [spec_DecideBy.eq, s_req, s_policy v rs hr, s_holding l s rs v hl hs hr]
  simp only [q0, qb, ql, cnot]
  rw [s_dec v rs _ (by omega) fun x hx => by obtain ⟨i, h1, h2⟩ := holdL_mem hx; rw [h2]; exact in_nat h1]
  simp only [cI]; rfl
theorem i_decide (l s : LL) (v : Int) (rs : LL) (hl : l.length ≤ 4611686018427387904) (hs : s.length ≤ 1048576) (hr : cntRs rs ≤ 1099511627776) (p d g ac ob now : Int) : impl_DecideBy.c l s v rs p d g ac ob now = rI (decideBy l s v rs p d g ac ob now) := by
  have hlen := cntRs_length rs
  have hh := holdL_len l s rs p d g ac ob now
  rw [impl_DecideBy.eq, i_req, i_policy v rs hr, i_holding below_ok l s rs v hl hs hr]
  unfold decideBy
  simp only [q0, qb, ql, cnot]
  cases isReq p d g ac ob now
  · rfl
  cases hp : isPolicy v rs
  · rfl
  rw [cond_true, cond_true, i_dec v rs _ (by omega) fun x hx => ?_]
  · rfl
  · obtain ⟨i, h1, h2⟩ := holdL_mem hx
    rw [h2]
    refine ⟨in_nat h1, ?_⟩
    unfold isPolicy at hp
    rw [Bool.and_eq_true] at hp
    have := List.all_eq_true.1 hp.1 _ (getD_mem h1 (z := []))
    unfold ruleOk isRule at this
    rw [Bool.and_eq_true] at this
    have := within_inv this.1
    show ui (rs.getD i []) 0 = 0 ∨ ui (rs.getD i []) 0 = 1
    omega
/-- How long a decision stays. -/
def stays (dec : Int → Int) (was lim : Int) : Nat → Int → Int
  | 0, t => t
  | k + 1, t => bif decide (t < lim) then (bif decide (dec (t + 1) = was) then stays dec was lim k (t + 1) else t) else t
noncomputable def until_ (l s : LL) (v : Int) (rs : LL) (p d g ac ob now most : Int) : Int := bif isReq p d g ac ob now then (bif isPolicy v rs then (bif within most 0 60 then
  stays (fun t => decideBy l s v rs p d g ac ob t) (decideBy l s v rs p d g ac ob now) (min (now + most) 10000) 61 now else now) else now) else now
theorem s_stays (l s : LL) (v : Int) (rs : LL) (hl : l.length ≤ 4611686018427387904) (hs : s.length ≤ 4611686018427387904) (hr : cntRs rs ≤ 1099511627776) (p d g ac ob now most was : Int) (hn : within now 0 10000 = true) (hm : within most 0 60 = true) :
    ∀ (k : Nat) (t : Int), now ≤ t → min (now + most) 10000 < t + (k : Int) → spec_DecisionUntil.l0 l s most was t v rs p d g ac ob now = rI (stays (fun t => decideBy l s v rs p d g ac ob t) was (min (now + most) 10000) k t)
  | 0, t, h0, h => by
    obtain ⟨h1, h2⟩ := within_inv hn
    obtain ⟨h3, h4⟩ := within_inv hm
    rw [spec_DecisionUntil.l0_eq, w64_id (n := now + most) (by omega) (by omega)]
    by_cases hc : t < now + most
    · rw [decide_eq_true hc, decide_eq_false (show ¬ t < 10000 by omega)]; rfl
    · rw [decide_eq_false hc]; rfl
  | k + 1, t, h0, h => by
    obtain ⟨h1, h2⟩ := within_inv hn
    obtain ⟨h3, h4⟩ := within_inv hm
    rw [spec_DecisionUntil.l0_eq, w64_id (n := now + most) (by omega) (by omega)]
    unfold stays
    by_cases hc : t < now + most
    · by_cases hd : t < 10000
      · rw [decide_eq_true hc, decide_eq_true hd, decide_eq_true (show t < min (now + most) 10000 by omega), w64_id (n := t + 1) (by omega) (by omega), spec_AtTime.eq]
        show ((spec_DecideBy.c l s v rs p d g ac ob (t + 1)).bind _) = _
        rw [s_decide l s v rs hl hs hr]
        show (bif decide (decideBy l s v rs p d g ac ob (t + 1) = was) then spec_DecisionUntil.l0 l s most was (t + 1) v rs p d g ac ob now else rI t) = _
        rw [s_stays l s v rs hl hs hr p d g ac ob now most was hn hm k (t + 1) (by omega) (by omega), cI]; rfl
      · rw [decide_eq_true hc, decide_eq_false hd, decide_eq_false (show ¬ t < min (now + most) 10000 by omega)]; rfl
    · rw [decide_eq_false hc, decide_eq_false (show ¬ t < min (now + most) 10000 by omega)]; rfl
theorem i_stays (l s : LL) (v : Int) (rs : LL) (hl : l.length ≤ 4611686018427387904) (hs : s.length ≤ 1048576) (hr : cntRs rs ≤ 1099511627776) (p d g ac ob now most was : Int) (hn : within now 0 10000 = true) (hm : within most 0 60 = true) :
    ∀ (k : Nat) (t : Int), now ≤ t → min (now + most) 10000 < t + (k : Int) → impl_DecisionUntil.l0 l s most t was v rs p d g ac ob now = rI (stays (fun t => decideBy l s v rs p d g ac ob t) was (min (now + most) 10000) k t)
  | 0, t, h0, h => by
    obtain ⟨h1, h2⟩ := within_inv hn
    obtain ⟨h3, h4⟩ := within_inv hm
    rw [impl_DecisionUntil.l0_eq, w64_id (n := now + most) (by omega) (by omega), mnE, decide_eq_false (show ¬ t < min (now + most) 10000 by omega)]; rfl
  | k + 1, t, h0, h => by
    obtain ⟨h1, h2⟩ := within_inv hn
    obtain ⟨h3, h4⟩ := within_inv hm
    rw [impl_DecisionUntil.l0_eq, w64_id (n := now + most) (by omega) (by omega), mnE]
    unfold stays
    by_cases hc : t < min (now + most) 10000
    · rw [decide_eq_true hc, w64_id (n := t + 1) (by omega) (by omega), impl_AtTime.eq]
      show ((impl_DecideBy.c l s v rs p d g ac ob (t + 1)).bind _) = _
      rw [i_decide l s v rs hl hs hr]
      show (bif decide (decideBy l s v rs p d g ac ob (t + 1) = was) then impl_DecisionUntil.l0 l s most (t + 1) was v rs p d g ac ob now else rI t) = _
      rw [i_stays l s v rs hl hs hr p d g ac ob now most was hn hm k (t + 1) (by omega) (by omega), cI]; rfl
    · rw [decide_eq_false hc]; rfl
theorem req_now {p d g ac ob now : Int} (h : isReq p d g ac ob now = true) : within now 0 10000 = true := by
  unfold isReq at h
  simp only [Bool.and_eq_true] at h
  exact h.2.2.2.2.2
theorem s_until (l s : LL) (v : Int) (rs : LL) (hl : l.length ≤ 4611686018427387904) (hs : s.length ≤ 4611686018427387904) (hr : cntRs rs ≤ 1099511627776) (p d g ac ob now most : Int) : spec_DecisionUntil.c l s v rs p d g ac ob now most = rI (until_ l s v rs p d g ac ob now most) := by
  rw [spec_DecisionUntil.eq, s_req, s_policy v rs hr, s_in, s_decide l s v rs hl hs hr]
  unfold until_
  simp only [q0, qb, qi, cnot]
  cases hq : isReq p d g ac ob now
  · rfl
  cases isPolicy v rs
  · rfl
  cases hm : within most 0 60
  · rfl
  have h1 := within_inv (req_now hq)
  have h2 := within_inv hm
  exact s_stays l s v rs hl hs hr p d g ac ob now most _ (req_now hq) hm 61 now (Int.le_refl _) (by omega)
theorem i_until (l s : LL) (v : Int) (rs : LL) (hl : l.length ≤ 4611686018427387904) (hs : s.length ≤ 1048576) (hr : cntRs rs ≤ 1099511627776) (p d g ac ob now most : Int) : impl_DecisionUntil.c l s v rs p d g ac ob now most = rI (until_ l s v rs p d g ac ob now most) := by
  rw [impl_DecisionUntil.eq, i_req, i_policy v rs hr, i_in, i_decide l s v rs hl hs hr]
  unfold until_
  simp only [q0, qb, qi, cnot]
  cases hq : isReq p d g ac ob now
  · rfl
  cases isPolicy v rs
  · rfl
  cases hm : within most 0 60
  · rfl
  have h1 := within_inv (req_now hq)
  have h2 := within_inv hm
  exact i_stays l s v rs hl hs hr p d g ac ob now most _ (req_now hq) hm 61 now (Int.le_refl _) (by omega)
/-! ### Saved decisions -/
def row8 (x : List U) : List U := [U.int (ui x 0), U.int (ui x 1), U.int (ui x 2), U.int (ui x 3), U.int (ui x 4), U.int (ui x 5), U.int (ui x 6), U.int (ui x 7)]
def other (p d g a o : Int) (x : List U) : Bool := !sameQ (ui x 0) (ui x 1) (ui x 2) (ui x 3) (ui x 4) p d g a o
def cut8 (xs : LL) : LL := bif decide (ln xs > 8) then xs.drop 1 else xs
def keepS (xs : LL) (p d g a o n c u : Int) : LL := cut8 ((xs.filter (other p d g a o)).map row8 ++ [[U.int p, U.int d, U.int g, U.int a, U.int o, U.int n, U.int c, U.int u]])
theorem cut_eq (xs : LL) : (bif decide (ln xs > 8) then grd (decide ((0 : Int) ≤ 1 ∧ (1 : Int) ≤ ln xs ∧ ln xs ≤ ln xs)) (rL (List.take (ln xs - 1).toNat (List.drop (Int.toNat 1) xs))) else rL xs) = rL (cut8 xs) := by
  unfold cut8
  have hl : ln xs = (xs.length : Int) := rfl
  by_cases h : ln xs > 8
  · rw [decide_eq_true h, decide_eq_true ⟨by omega, by omega, Int.le_refl _⟩]
    show rL (List.take (ln xs - 1).toNat (xs.drop 1)) = rL (xs.drop 1)
    rw [List.take_of_length_le (by rw [List.length_drop]; omega)]
  · rw [decide_eq_false h]; rfl
theorem s_put (xs : LL) (hx : xs.length ≤ 1099511627776) (p d g a o n c u : Int) : spec_PutSaved.c xs p d g a o n c u = rL (keepS xs p d g a o n c u) := by
  rw [spec_PutSaved.eq]
  refine gatherL (l0 := fun i acc => spec_PutSaved.l0 xs i p d g a o n c u acc) (xs := xs) (q := other p d g a o) (f := row8) (R := fun acc => rL (cut8 (acc ++ [[U.int p, U.int d, U.int g, U.int a, U.int o, U.int n, U.int c, U.int u]]))) (fun acc ha => ?_) fun i hi acc ha => ?_
  · rw [spec_PutSaved.l0_eq, not_lt_nat (Nat.le_refl _), cond_false, room_true (by simp; omega) (by simp; omega), gt_]
    exact cut_eq _
  · rw [spec_PutSaved.l0_eq, lt_nat hi, in_nat hi, w64_nat (by omega), s_same, room_true (by simp; omega) (by simp; omega)]; rfl
theorem i_put (xs : LL) (hx : xs.length ≤ 1099511627776) (p d g a o n c u : Int) : impl_PutSaved.c xs p d g a o n c u = rL (keepS xs p d g a o n c u) := by
  rw [impl_PutSaved.eq]
  refine gatherL (l0 := fun i acc => impl_PutSaved.l0 xs _ i p d g a o n c u acc) (xs := xs) (q := other p d g a o) (f := row8) (R := fun acc => rL (cut8 (acc ++ [[U.int p, U.int d, U.int g, U.int a, U.int o, U.int n, U.int c, U.int u]]))) (fun acc ha => ?_) fun i hi acc ha => ?_
  · rw [impl_PutSaved.l0_eq, not_lt_nat (Nat.le_refl _), cond_false, room_true (by simp; omega) (by simp; omega), gt_]
    exact cut_eq _
  · rw [impl_PutSaved.l0_eq, lt_nat hi, in_nat hi, w64_nat (by omega), i_same, room_true (by simp; omega) (by simp; omega)]; rfl
/-! ### Copies -/
def copyC : Nat → LL → LL
  | 0, _ => []
  | n + 1, xs => xs.map fun x => [U.int (ui x 0), U.int (ui x 1), U.int (ui x 2), U.lst (copyC n (ul x 3))]
theorem s_copyC : ∀ (n : Nat) (o a b : Int) (xs : LL), cntRs xs < n → n ≤ 1099511627777 → spec_l15Copy.c o a b xs = some ⟨[[.int o, .int a, .int b, .lst (copyC n xs)]], []⟩
  | 0, o, a, b, xs, h, _ => by omega
  | n + 1, o, a, b, xs, h, hn => by
    have hl := cntRs_length xs
    rw [spec_l15Copy.eq]
    refine copyL (l0 := fun i acc => spec_l15Copy.l0 i o a b xs 0 0 0 o a b acc) (xs := xs) (f := fun x => [U.int (ui x 0), U.int (ui x 1), U.int (ui x 2), U.lst (copyC n (ul x 3))]) (R := fun acc => some ⟨[[.int o, .int a, .int b, .lst acc]], []⟩) (fun acc ha => ?_) fun i hi acc ha => ?_
    · rw [spec_l15Copy.l0_eq, not_lt_nat (Nat.le_refl _)]; rfl
    · have := sub_lt hi 3
      have hs := s_copyC n (ui (xs.getD i []) 0) (ui (xs.getD i []) 1) (ui (xs.getD i []) 2) (ul (xs.getD i []) 3) (by omega) (by omega)
      rw [spec_l15Copy.l0_eq, lt_nat hi, in_nat hi, w64_nat (by omega)]
      show ((spec_l15Copy.c (ui (xs.getD i []) 0) (ui (xs.getD i []) 1) (ui (xs.getD i []) 2) (ul (xs.getD i []) 3)).bind _) = _
      rw [hs]
      show grd (room (acc.length + 1) 48) _ = _
      rw [room_true (by omega) (by omega)]; rfl
theorem i_copyC : ∀ (n : Nat) (o a b : Int) (xs : LL), cntRs xs < n → n ≤ 1099511627777 → impl_copyCond.c o a b xs = some ⟨[[.int o, .int a, .int b, .lst (copyC n xs)]], []⟩
  | 0, o, a, b, xs, h, _ => by omega
  | n + 1, o, a, b, xs, h, hn => by
    have hl := cntRs_length xs
    rw [impl_copyCond.eq]
    refine copyL (l0 := fun i acc => impl_copyCond.l0 xs _ i 0 0 0 o a b acc) (xs := xs) (f := fun x => [U.int (ui x 0), U.int (ui x 1), U.int (ui x 2), U.lst (copyC n (ul x 3))]) (R := fun acc => some ⟨[[.int o, .int a, .int b, .lst acc]], []⟩) (fun acc ha => ?_) fun i hi acc ha => ?_
    · rw [impl_copyCond.l0_eq, not_lt_nat (Nat.le_refl _)]; rfl
    · have := sub_lt hi 3
      have hs := i_copyC n (ui (xs.getD i []) 0) (ui (xs.getD i []) 1) (ui (xs.getD i []) 2) (ul (xs.getD i []) 3) (by omega) (by omega)
      rw [impl_copyCond.l0_eq, lt_nat hi, in_nat hi, w64_nat (by omega)]
      show ((impl_copyCond.c (ui (xs.getD i []) 0) (ui (xs.getD i []) 1) (ui (xs.getD i []) 2) (ul (xs.getD i []) 3)).bind _) = _
      rw [hs]
      show grd (room (acc.length + 1) 48) _ = _
      rw [room_true (by omega) (by omega)]; rfl
def copyR (xs : LL) : LL := xs.map fun x => [U.int (ui x 0), U.int (ui x 1), U.int (ui x 2), U.int (ui x 3), U.int (ui x 4), U.int (ui x 5), U.lst (copyC (cntRs xs) (ul x 6))]
theorem s_copyP (v : Int) (xs : LL) (h : cntRs xs ≤ 1099511627776) : spec_l19Copy.c v xs = some ⟨[[.int v, .lst (copyR xs)]], []⟩ := by
  have hl := cntRs_length xs
  rw [spec_l19Copy.eq]
  refine copyL (l0 := fun i acc => spec_l19Copy.l0 i v xs 0 v acc) (xs := xs) (f := fun x => [U.int (ui x 0), U.int (ui x 1), U.int (ui x 2), U.int (ui x 3), U.int (ui x 4), U.int (ui x 5), U.lst (copyC (cntRs xs) (ul x 6))]) (R := fun acc => some ⟨[[.int v, .lst acc]], []⟩) (fun acc ha => ?_) fun i hi acc ha => ?_
  · rw [spec_l19Copy.l0_eq, not_lt_nat (Nat.le_refl _)]; rfl
  · have := sub_lt hi 6
    have hs := s_copyC (cntRs xs) (ui (xs.getD i []) 3) (ui (xs.getD i []) 4) (ui (xs.getD i []) 5) (ul (xs.getD i []) 6) this (by omega)
    rw [spec_l19Copy.l0_eq, lt_nat hi, in_nat hi, w64_nat (by omega)]
    show ((spec_l15Copy.c (ui (xs.getD i []) 3) (ui (xs.getD i []) 4) (ui (xs.getD i []) 5) (ul (xs.getD i []) 6)).bind _) = _
    rw [hs]
    show grd (room (acc.length + 1) 72) _ = _
    rw [room_true (by omega) (by omega)]; rfl
theorem i_copyP (v : Int) (xs : LL) (h : cntRs xs ≤ 1099511627776) : impl_copyPolicy.c v xs = some ⟨[[.int v, .lst (copyR xs)]], []⟩ := by
  have hl := cntRs_length xs
  have : impl_copyRules.c xs = rL (copyR xs) := by
    rw [impl_copyRules.eq]
    refine copyL (l0 := fun i acc => impl_copyRules.l0 xs _ i acc) (xs := xs) (f := fun x => [U.int (ui x 0), U.int (ui x 1), U.int (ui x 2), U.int (ui x 3), U.int (ui x 4), U.int (ui x 5), U.lst (copyC (cntRs xs) (ul x 6))]) (R := fun acc => rL acc) (fun acc ha => ?_) fun i hi acc ha => ?_
    · rw [impl_copyRules.l0_eq, not_lt_nat (Nat.le_refl _)]; rfl
    · have := sub_lt hi 6
      have hs := i_copyC (cntRs xs) (ui (xs.getD i []) 3) (ui (xs.getD i []) 4) (ui (xs.getD i []) 5) (ul (xs.getD i []) 6) this (by omega)
      rw [impl_copyRules.l0_eq, lt_nat hi, in_nat hi, w64_nat (by omega)]
      show ((impl_copyCond.c (ui (xs.getD i []) 3) (ui (xs.getD i []) 4) (ui (xs.getD i []) 5) (ul (xs.getD i []) 6)).bind _) = _
      rw [hs]
      show grd (room (acc.length + 1) 72) _ = _
      rw [room_true (by omega) (by omega)]; rfl
  rw [impl_copyPolicy.eq, this]; rfl
theorem s_copyE (n a : Int) (ps : LL) (v : Int) (rs : LL) (hp : ps.length ≤ 1099511627776) (hr : cntRs rs ≤ 1099511627776) : spec_l24Copy.c n a ps v rs = some ⟨[[.int n, .int a, .lst ps, .int v, .lst (copyR rs)]], []⟩ := by
  rw [spec_l24Copy.eq, room_true (by omega) (by omega), s_copyP v rs hr]; rfl
theorem i_copyE (n a : Int) (ps : LL) (v : Int) (rs : LL) (hp : ps.length ≤ 1099511627776) (hr : cntRs rs ≤ 1099511627776) : impl_copyEpoch.c n a ps v rs = some ⟨[[.int n, .int a, .lst ps, .int v, .lst (copyR rs)]], []⟩ := by
  rw [impl_copyEpoch.eq, room_true (by omega) (by omega), i_copyP v rs hr]; rfl
theorem s_copyF (s : LL) (h : s.length ≤ 1099511627776) : spec_l7Copy.c s = rL s := by rw [spec_l7Copy.eq, room_true (by omega) (by omega)]; rfl
theorem i_copyF (s : LL) (h : s.length ≤ 1099511627776) : impl_copyFacts.c s = rL s := by rw [impl_copyFacts.eq, room_true (by omega) (by omega)]; rfl
theorem s_copyPt (i n a : Int) (ps : LL) (v : Int) (rs s rv : LL) (sy : Int) (sv : LL) (hp : ps.length ≤ 1099511627776) (hr : cntRs rs ≤ 1099511627776) (hs : s.length ≤ 1099511627776) (hv : rv.length ≤ 1099511627776) (hw : sv.length ≤ 1099511627776) :
    spec_l27Copy.c i n a ps v rs s rv sy sv = some ⟨[[.int i, .int n, .int a, .lst ps, .int v, .lst (copyR rs), .lst s, .lst rv, .int sy, .lst sv]], []⟩ := by
  rw [spec_l27Copy.eq, s_copyE n a ps v rs hp hr, s_copyF s hs, room_true (by omega) (by omega), room_true (by omega) (by omega)]; rfl
theorem i_copyPt (i n a : Int) (ps : LL) (v : Int) (rs s rv : LL) (sy : Int) (sv : LL) (hp : ps.length ≤ 1099511627776) (hr : cntRs rs ≤ 1099511627776) (hs : s.length ≤ 1099511627776) (hv : rv.length ≤ 1099511627776) (hw : sv.length ≤ 1099511627776) :
    impl_copyPoint.c i n a ps v rs s rv sy sv = some ⟨[[.int i, .int n, .int a, .lst ps, .int v, .lst (copyR rs), .lst s, .lst rv, .int sy, .lst sv]], []⟩ := by
  rw [impl_copyPoint.eq, i_copyE n a ps v rs hp hr, i_copyF s hs, room_true (by omega) (by omega), room_true (by omega) (by omega)]; rfl
end Go.Proofs.YtlknolcgdkhccaaGreat.Eng
