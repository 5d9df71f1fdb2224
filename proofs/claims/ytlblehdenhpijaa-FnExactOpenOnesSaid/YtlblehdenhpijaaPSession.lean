/- Helpers of laws over sessions: copies, comparisons, marks. -/
import Derived.Test.YtlblehdenhpijaaPL
import Derived.Test.YtlblehdenhpijaaBase
import Derived.Test.YtlblehdenhpijaaF0
namespace Go.Proofs.Ytlblehdenhpijaa.Eng
open Go.RowKit
set_option maxRecDepth 100000
set_option linter.unusedSimpArgs false
set_option linter.unusedVariables false
theorem row79 {x : List U} (h : WTs tabs.ct (tabs.ct 79) x) : ∃ (c0 c1 c2 c3 c4 c5 c6 c7 c8 : Int) (c9 : Bool), x = [.int c0, .int c1, .int c2, .int c3, .int c4, .int c5, .int c6, .int c7, .int c8, .bool c9] := by
  have h : WTs tabs.ct [.int .i64, .int .i64, .int .i64, .int .i64, .int .i64, .int .i64, .int .i64, .int .i64, .int .i64, .bool] x := h
  obtain ⟨u0, x0, rfl, k0, h⟩ := h.cons
  obtain ⟨u1, x1, rfl, k1, h⟩ := h.cons
  obtain ⟨u2, x2, rfl, k2, h⟩ := h.cons
  obtain ⟨u3, x3, rfl, k3, h⟩ := h.cons
  obtain ⟨u4, x4, rfl, k4, h⟩ := h.cons
  obtain ⟨u5, x5, rfl, k5, h⟩ := h.cons
  obtain ⟨u6, x6, rfl, k6, h⟩ := h.cons
  obtain ⟨u7, x7, rfl, k7, h⟩ := h.cons
  obtain ⟨u8, x8, rfl, k8, h⟩ := h.cons
  obtain ⟨u9, x9, rfl, k9, h⟩ := h.cons
  obtain rfl := h.nil
  obtain ⟨c0, rfl, _⟩ := k0.int_inv
  obtain ⟨c1, rfl, _⟩ := k1.int_inv
  obtain ⟨c2, rfl, _⟩ := k2.int_inv
  obtain ⟨c3, rfl, _⟩ := k3.int_inv
  obtain ⟨c4, rfl, _⟩ := k4.int_inv
  obtain ⟨c5, rfl, _⟩ := k5.int_inv
  obtain ⟨c6, rfl, _⟩ := k6.int_inv
  obtain ⟨c7, rfl, _⟩ := k7.int_inv
  obtain ⟨c8, rfl, _⟩ := k8.int_inv
  obtain ⟨c9, rfl⟩ := k9.bool_inv
  exact ⟨c0, c1, c2, c3, c4, c5, c6, c7, c8, c9, rfl⟩
theorem getD_mem {α : Type} {l : List α} {i : Nat} {z : α} (h : i < l.length) : l.getD i z ∈ l := by
  rw [List.getD_eq_getElem?_getD, List.getElem?_eq_getElem h]; exact List.getElem_mem h
theorem to_Session (c0 c1 c2 c3 c4 c5 c6 c7 c8 : Int) (c9 : Bool) : laws_toSession.c dn c0 c1 c2 c3 c4 c5 c6 c7 c8 c9 = some ⟨[[.int c0, .int c1, .int c2, .int c3, .int c4, .int c5, .int c6, .int c7, .int c8, .bool c9]], []⟩ := by
  rw [laws_toSession.eq fix, laws_toRequest.eq fix]; rfl
theorem to_SessionS (xs : List (List U)) (h : WR tabs.ct 79 xs) (hl : xs.length ≤ 1048576) : laws_toSessionS.c dn xs = some ⟨[[.lst xs]], []⟩ := by
  rw [laws_toSessionS.eq fix, Int.toNat_natCast, room_true (by omega) (by omega), decide_eq_true (by omega)]
  show laws_toSessionS.l0 dn iterL xs 0 (List.replicate xs.length _) = _
  refine (fill_loop (l0 := fun i s => laws_toSessionS.l0 dn iterL xs i s) (row := fun i => xs.getD i []) (R := fun s => some ⟨[[.lst s]], []⟩) (fun s hs => ?_) (fun i hi s hs hz => ?_)).trans (by rw [range_getD])
  · show laws_toSessionS.l0 dn iterL xs _ s = _
    rw [laws_toSessionS.l0_eq fix, not_lt_nat (Nat.le_refl _)]; rfl
  · obtain ⟨c0, c1, c2, c3, c4, c5, c6, c7, c8, c9, hrow⟩ := row79 (h.2 _ (getD_mem hi (z := [])))
    show laws_toSessionS.l0 dn iterL xs _ s = laws_toSessionS.l0 dn iterL xs _ _
    rw [laws_toSessionS.l0_eq fix, lt_nat hi, inRange_nat, inRange_nat, decide_eq_true hi, decide_eq_true (by omega : i < s.length), Int.toNat_natCast, hrow, wrap_nat (by omega)]
    simp only [cond_true, setEl_eq, hz, List.getD_cons_zero, List.getD_cons_succ, U.toInt_int, U.toBool_bool, to_Session, Option.bind_some, Ret.u_mk, splice_nil, splice_cons, List.set_cons_zero, List.set_cons_succ]
theorem eq_Session (c0 c1 c2 c3 c4 c5 c6 c7 c8 : Int) (c9 : Bool) : laws_eqSession.c dn c0 c1 c2 c3 c4 c5 c6 c7 c8 c9 c0 c1 c2 c3 c4 c5 c6 c7 c8 c9 = some ⟨[[.bool true]], []⟩ := by
  rw [laws_eqSession.eq fix, laws_eqRequest.eq fix]; simp
theorem eq_SessionS (xs : List (List U)) (hl : xs.length ≤ 1048576) : laws_eqSessionS.c dn xs xs = some ⟨[[.bool true]], []⟩ := by
  rw [laws_eqSessionS.eq fix, decide_eq_true rfl]
  show laws_eqSessionS.l0 dn iterL xs xs 0 = _
  refine all_loop (l0 := fun i => laws_eqSessionS.l0 dn iterL xs xs i) (n := xs.length) ?_ (fun i hi => ?_)
  · show laws_eqSessionS.l0 dn iterL xs xs _ = _
    rw [laws_eqSessionS.l0_eq fix, not_lt_nat (Nat.le_refl _)]; rfl
  · show laws_eqSessionS.l0 dn iterL xs xs _ = laws_eqSessionS.l0 dn iterL xs xs _
    rw [laws_eqSessionS.l0_eq fix, lt_nat hi, inRange_nat, decide_eq_true hi, Int.toNat_natCast, wrap_nat (by omega), eq_Session]
    rfl
def mk74 (x : List U) (k : Int) : List U × Int := ([.int k, .int (k + 1), .int (k + 2), .int (k + 3), .int (k + 4), .int (k + 5), .int (k + 6), .int (k + 7), .int (k + 8), .bool (decide ((k + 9).tmod 3 = 0))], k + 10)
theorem mark_SessionS (xs : List (List U)) (h : WR tabs.ct 79 xs) (hl : xs.length ≤ 1048576) : laws_markSessionS.c dn 1 xs = some ⟨[[.int (markL mk74 xs 1).2]], [(markL mk74 xs 1).1]⟩ ∧ 1 ≤ (markL mk74 xs 1).2 ∧ (markL mk74 xs 1).2 ≤ 1 + (10 * xs.length : Nat) := by
  rw [laws_markSessionS.eq fix]
  refine mark_loop (l0 := fun k i s => laws_markSessionS.l0 dn iterL k i s) (f := mk74) (c := 10) (fun x hx k hk => ⟨by show k ≤ k + 10; omega, by show k + 10 ≤ _; omega⟩) (fun k s hs => ?_) (fun i hi k s hs hrow h0 hk => ?_) (by omega) (by omega)
  · show laws_markSessionS.l0 dn iterL _ _ s = _
    rw [laws_markSessionS.l0_eq fix, ← hs, not_lt_nat (Nat.le_refl _)]; rfl
  · obtain ⟨c0, c1, c2, c3, c4, c5, c6, c7, c8, c9, hr⟩ := row79 (h.2 _ (getD_mem hi (z := [])))
    rw [hr] at hrow
    have hi' : i < s.length := by omega
    show laws_markSessionS.l0 dn iterL _ _ s = laws_markSessionS.l0 dn iterL _ _ _
    rw [laws_markSessionS.l0_eq fix, lt_nat hi']
    simp only [setEl_length, List.length_set, Int.toNat_natCast, inRange_nat, decide_eq_true hi', cond_true, setEl_eq s, setEl_set hi', hrow, splice_nil, splice_cons, List.set_cons_zero, List.set_cons_succ]
    simp (disch := omega) only [wrap_id, Int.add_assoc, Int.reduceAdd]
    rfl
theorem held_SessionS (xs : List (List U)) (hl : xs.length ≤ 1048576) : laws_heldSessionS.c dn (markL mk74 xs 1).1 1 = some ⟨[[.int (markL mk74 xs 1).2]], []⟩ := by
  rw [laws_heldSessionS.eq fix]
  have hlen : (markL mk74 xs 1).1.length = xs.length := markL_length _ _ _
  refine held_loop (l0 := fun k i => laws_heldSessionS.l0 dn iterL (markL mk74 xs 1).1 k i) (f := mk74) (c := 10) (fun x hx k hk => ⟨by show k ≤ k + 10; omega, by show k + 10 ≤ _; omega⟩) (by omega) (by omega) (fun k => ?_) (fun i hi k hrow h0 hk => ?_)
  · show laws_heldSessionS.l0 dn iterL _ _ _ = _
    rw [laws_heldSessionS.l0_eq fix, hlen, not_lt_nat (Nat.le_refl _)]; rfl
  · have hi' : i < (markL mk74 xs 1).1.length := by omega
    show laws_heldSessionS.l0 dn iterL _ _ _ = laws_heldSessionS.l0 dn iterL _ _ _
    rw [laws_heldSessionS.l0_eq fix, lt_nat hi']
    have hrow : (markL mk74 xs 1).1.getD i [] = [.int k, .int (k + 1), .int (k + 2), .int (k + 3), .int (k + 4), .int (k + 5), .int (k + 6), .int (k + 7), .int (k + 8), .bool (decide ((k + 9).tmod 3 = 0))] := hrow
    simp only [Int.toNat_natCast, inRange_nat, decide_eq_true hi', cond_true, hrow, List.getD_cons_zero, List.getD_cons_succ, U.toInt_int, U.toBool_bool]
    simp (disch := omega) only [wrap_id, Int.add_assoc, Int.reduceAdd]
    simp [mk74]
/-! ### Rows of numbers -/
theorem eq_IntS (xs : List (List U)) (hl : xs.length ≤ 1048576) : laws_eqIntS.c dn xs xs = some ⟨[[.bool true]], []⟩ := by
  rw [laws_eqIntS.eq fix, decide_eq_true rfl]
  show laws_eqIntS.l0 dn iterL xs xs 0 = _
  refine all_loop (l0 := fun i => laws_eqIntS.l0 dn iterL xs xs i) (n := xs.length) ?_ (fun i hi => ?_)
  · show laws_eqIntS.l0 dn iterL xs xs _ = _
    rw [laws_eqIntS.l0_eq fix, not_lt_nat (Nat.le_refl _)]; rfl
  · show laws_eqIntS.l0 dn iterL xs xs _ = laws_eqIntS.l0 dn iterL xs xs _
    rw [laws_eqIntS.l0_eq fix, lt_nat hi, inRange_nat, decide_eq_true hi, Int.toNat_natCast, wrap_nat (by omega), decide_eq_true rfl]
    rfl
def mk3 (x : List U) (k : Int) : List U × Int := ([.int k], k + 1)
theorem mark_IntS (xs : List (List U)) (h : ∀ x ∈ xs, ∃ n, x = [.int n]) (hl : xs.length ≤ 1048576) : laws_markIntS.c dn 1 xs = some ⟨[[.int (markL mk3 xs 1).2]], [(markL mk3 xs 1).1]⟩ ∧ 1 ≤ (markL mk3 xs 1).2 ∧ (markL mk3 xs 1).2 ≤ 1 + (1 * xs.length : Nat) := by
  rw [laws_markIntS.eq fix]
  refine mark_loop (l0 := fun k i s => laws_markIntS.l0 dn iterL k i s) (f := mk3) (c := 1) (fun x hx k hk => ⟨by show k ≤ k + 1; omega, by show k + 1 ≤ _; omega⟩) (fun k s hs => ?_) (fun i hi k s hs hrow h0 hk => ?_) (by omega) (by omega)
  · show laws_markIntS.l0 dn iterL _ _ s = _
    rw [laws_markIntS.l0_eq fix, ← hs, not_lt_nat (Nat.le_refl _)]; rfl
  · obtain ⟨c0, hr⟩ := h _ (getD_mem hi (z := []))
    rw [hr] at hrow
    have hi' : i < s.length := by omega
    show laws_markIntS.l0 dn iterL _ _ s = laws_markIntS.l0 dn iterL _ _ _
    rw [laws_markIntS.l0_eq fix, lt_nat hi']
    simp only [setEl_length, List.length_set, Int.toNat_natCast, inRange_nat, decide_eq_true hi', cond_true, setEl_eq s, setEl_set hi', hrow, splice_nil, splice_cons, List.set_cons_zero, List.set_cons_succ]
    simp (disch := omega) only [wrap_id, Int.add_assoc, Int.reduceAdd]
    rfl
theorem held_IntS (xs : List (List U)) (hl : xs.length ≤ 1048576) : laws_heldIntS.c dn (markL mk3 xs 1).1 1 = some ⟨[[.int (markL mk3 xs 1).2]], []⟩ := by
  rw [laws_heldIntS.eq fix]
  have hlen : (markL mk3 xs 1).1.length = xs.length := markL_length _ _ _
  refine held_loop (l0 := fun k i => laws_heldIntS.l0 dn iterL (markL mk3 xs 1).1 k i) (f := mk3) (c := 1) (fun x hx k hk => ⟨by show k ≤ k + 1; omega, by show k + 1 ≤ _; omega⟩) (by omega) (by omega) (fun k => ?_) (fun i hi k hrow h0 hk => ?_)
  · show laws_heldIntS.l0 dn iterL _ _ _ = _
    rw [laws_heldIntS.l0_eq fix, hlen, not_lt_nat (Nat.le_refl _)]; rfl
  · have hi' : i < (markL mk3 xs 1).1.length := by omega
    show laws_heldIntS.l0 dn iterL _ _ _ = laws_heldIntS.l0 dn iterL _ _ _
    rw [laws_heldIntS.l0_eq fix, lt_nat hi']
    have hrow : (markL mk3 xs 1).1.getD i [] = [.int k] := hrow
    simp only [Int.toNat_natCast, inRange_nat, decide_eq_true hi', cond_true, hrow, List.getD_cons_zero, List.getD_cons_succ, U.toInt_int, U.toBool_bool]
    simp (disch := omega) only [wrap_id, Int.add_assoc, Int.reduceAdd]
    simp [mk3]
theorem sz_SessionS (xs : List (List U)) (h : WR tabs.ct 79 xs) : laws_szSessionS.c dn xs 1048576 = some ⟨[[.int (if xs.length ≤ 1048576 then 1048576 - (xs.length : Int) else -1)]], []⟩ := by
  have := h.1
  rw [laws_szSessionS.eq fix, wrap_id (by omega) (by omega)]
  by_cases hl : xs.length ≤ 1048576
  · rw [decide_eq_false (by omega), if_pos hl]; rfl
  · rw [decide_eq_true (by omega), if_neg hl]; rfl
end Go.Proofs.Ytlblehdenhpijaa.Eng
