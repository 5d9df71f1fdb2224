/- A trail grows at its end only, and what is changed or missing is noticed: the pure statement. -/
import Derived.Test.YtlkcpabdpmenpaaBase
import Derived.Test.YtlkcpabdpmenpaaPTj
namespace Go.Proofs.Ytlkcpabdpmenpaa.Eng
open Go.RowKit
set_option linter.unusedVariables false
set_option linter.unusedSimpArgs false
set_option linter.unusedSectionVars false
set_option maxRecDepth 100000
section
variable [Sm]
theorem draw_append {s : LL} (hs : s.length ≤ 1048576) : ∃ l i0 i1 i2 i3 i4 i5 i6 i7 i8, spec_DrawAppendEntry.c s = some ⟨[[.lst l], [.int i0, .int i1, .int i2, .int i3, .int i4, .int i5, .int i6, .int i7, .int i8]], []⟩ ∧ l.length ≤ 60 ∧ ∀ x ∈ l, E9 x := by
  obtain ⟨c0, e0, k0⟩ := new_ok s hs
  obtain ⟨l, c1, e1, k1, tl⟩ := trail_ok k0
  obtain ⟨v, c2, e2, k2⟩ := once_ok k1 10
  -- what follows the trail
  have rest : ∀ (l : LL) (G : LL → O), (∀ c, G c = (spec_l1Below.c 20 c).bind fun r4 => (spec_l34Entry.c (w64 (10 + r4.i 0)) (r4.m 0)).bind fun r5 => (spec_l1Below.c 6 (r5.m 0)).bind fun r6 => bif decide (r6.i 0 = 0) then ((spec_l1Int.c (r6.m 0) ([[U.int 0], [U.int 4], [U.int (-1 : Int)]])).bind fun r7 => some ⟨[[.lst l], [.int (r7.i 0), .int (r5.i 1), .int (r5.i 2), .int (r5.i 3), .int (r5.i 4), .int (r5.i 5), .int (r5.i 6), .int (r5.i 7), .int (r5.i 8)]], []⟩) else (bif decide (r6.i 0 = 1) then ((spec_l4Time.c (r6.m 0)).bind fun r8 => some ⟨[[.lst l], [.int (r5.i 0), .int (r8.i 0), .int (r5.i 2), .int (r5.i 3), .int (r5.i 4), .int (r5.i 5), .int (r5.i 6), .int (r5.i 7), .int (r5.i 8)]], []⟩) else (some ⟨[[.lst l], [.int (r5.i 0), .int (r5.i 1), .int (r5.i 2), .int (r5.i 3), .int (r5.i 4), .int (r5.i 5), .int (r5.i 6), .int (r5.i 7), .int (r5.i 8)]], []⟩))) →
      ∀ c, CurOk c → ∃ i0 i1 i2 i3 i4 i5 i6 i7 i8, G c = some ⟨[[.lst l], [.int i0, .int i1, .int i2, .int i3, .int i4, .int i5, .int i6, .int i7, .int i8]], []⟩ := by
    intro l G hG c hc
    obtain ⟨v1, d1, f1, g1, _⟩ := below_ok hc 20
    obtain ⟨i0, i2, i3, i4, i5, i6, i7, d2, f2, g2⟩ := entry_ok g1 (w64 (10 + v1))
    obtain ⟨v3, d3, f3, g3, _⟩ := below_ok g2 6
    have e : G c = bif decide (v3 = 0) then ((spec_l1Int.c d3 ([[U.int 0], [U.int 4], [U.int (-1 : Int)]])).bind fun r7 => some ⟨[[.lst l], [.int (r7.i 0), .int (w64 (10 + v1)), .int i2, .int i3, .int i4, .int i5, .int i6, .int i7, .int 0]], []⟩) else (bif decide (v3 = 1) then ((spec_l4Time.c d3).bind fun r8 => some ⟨[[.lst l], [.int i0, .int (r8.i 0), .int i2, .int i3, .int i4, .int i5, .int i6, .int i7, .int 0]], []⟩) else (some ⟨[[.lst l], [.int i0, .int (w64 (10 + v1)), .int i2, .int i3, .int i4, .int i5, .int i6, .int i7, .int 0]], []⟩)) := by
      rw [hG, f1]
      show ((spec_l34Entry.c (w64 (10 + v1)) d1).bind _) = _
      rw [f2]
      show ((spec_l1Below.c 6 d2).bind _) = _
      rw [f3]; rfl
    rw [e]
    cases decide (v3 = 0)
    · cases decide (v3 = 1)
      · exact ⟨_, _, _, _, _, _, _, _, _, rfl⟩
      · show ∃ j0 j1 j2 j3 j4 j5 j6 j7 j8, ((spec_l4Time.c d3).bind _) = _
        rw [spec_l4Time.eq]
        obtain ⟨v4, d4, f4, g4⟩ := once_ok g3 8
        rw [f4]
        cases v4
        · obtain ⟨v5, d5, f5, g5, _⟩ := below_ok g4 40
          show ∃ j0 j1 j2 j3 j4 j5 j6 j7 j8, (((spec_l1Below.c 40 d4).bind _ : O).bind _) = _
          rw [f5]
          exact ⟨_, _, _, _, _, _, _, _, _, rfl⟩
        · obtain ⟨j, d5, f5, g5, _⟩ := int_ok g4 ([[U.int (-1 : Int)], [U.int 0], [U.int 10000], [U.int 10001], [U.int 9223372036854775807], [U.int (-9223372036854775808 : Int)]]) (by decide)
          show ∃ j0 j1 j2 j3 j4 j5 j6 j7 j8, (((spec_l1Int.c d4 ([[U.int (-1 : Int)], [U.int 0], [U.int 10000], [U.int 10001], [U.int 9223372036854775807], [U.int (-9223372036854775808 : Int)]])).bind _ : O).bind _) = _
          rw [f5]
          exact ⟨_, _, _, _, _, _, _, _, _, rfl⟩
    · obtain ⟨j, d4, f4, g4, _⟩ := int_ok g3 ([[U.int 0], [U.int 4], [U.int (-1 : Int)]]) (by decide)
      show ∃ j0 j1 j2 j3 j4 j5 j6 j7 j8, ((spec_l1Int.c d3 ([[U.int 0], [U.int 4], [U.int (-1 : Int)]])).bind _) = _
      rw [f4]
      exact ⟨_, _, _, _, _, _, _, _, _, rfl⟩
  rw [spec_DrawAppendEntry.eq, e0]
  show ∃ l i0 i1 i2 i3 i4 i5 i6 i7 i8, ((spec_l34Trail.c c0).bind _) = _ ∧ _
  rw [e1]
  show ∃ l i0 i1 i2 i3 i4 i5 i6 i7 i8, ((spec_l1Once.c 10 c1).bind _) = _ ∧ _
  rw [e2]
  cases v
  · obtain ⟨i0, i1, i2, i3, i4, i5, i6, i7, i8, e⟩ := rest l _ (fun c => rfl) c2 k2
    exact ⟨l, i0, i1, i2, i3, i4, i5, i6, i7, i8, e, by have := tl.1; omega, tl.2.2⟩
  · obtain ⟨ys, t1, t2, t3⟩ := fill_trail c2 (60 - l.length) l (by have := tl.1; omega) ⟨Nat.le_refl _, upto_mono tl.2.1 (by omega), tl.2.2⟩
    have hd : decide (ln ys < 60) = false := decide_eq_false (by show ¬ ((ys.length : Int) < 60); omega)
    obtain ⟨i0, i1, i2, i3, i4, i5, i6, i7, i8, e⟩ := rest ys (fun c => spec_DrawAppendEntry.l0 0 0 0 0 0 0 0 0 0 c ys) (fun c => by rw [spec_DrawAppendEntry.l0_eq, hd]; rfl) c2 k2
    exact ⟨ys, i0, i1, i2, i3, i4, i5, i6, i7, i8, t2.trans e, t1.1, t1.2.2⟩
theorem draw_join {s : LL} (hs : s.length ≤ 1048576) : ∃ a b, spec_DrawJoinTrails.c s = some ⟨[[.lst a], [.lst b]], []⟩ ∧ a.length ≤ 60 ∧ b.length ≤ 60 := by
  obtain ⟨c0, e0, k0⟩ := new_ok s hs
  obtain ⟨a, c1, e1, k1, ta⟩ := trail_ok k0
  obtain ⟨b, c2, e2, k2, tb⟩ := trail_ok k1
  rw [spec_DrawJoinTrails.eq, e0]
  show ∃ a b, ((spec_l34Trail.c c0).bind _) = _ ∧ _
  rw [e1]
  show ∃ a b, ((spec_l34Trail.c c1).bind _) = _ ∧ _
  rw [e2]
  exact ⟨a, b, rfl, by have := ta.1; omega, by have := tb.1; omega⟩
/-- What is joined is in order, and adds up. -/
theorem joined (a b : LL) (ha : a.length ≤ 60) (hb : b.length ≤ 60) : laws_FnTrails.l1 1 a b (mrg (a.length + b.length) a b) = rB true := by
  have hlen := mrg_len (a.length + b.length) a b (Nat.le_refl _)
  have hend : ∀ i : Nat, (mrg (a.length + b.length) a b).length ≤ i → laws_FnTrails.l1 (i : Int) a b (mrg (a.length + b.length) a b) = rB true := by
    intro i hi
    have c0 := mrg_cnt (isK 1 1) (fun _ => rfl) (a.length + b.length) a b (Nat.le_refl _)
    have h1 := List.countP_le_length (p := isK 1 1) (l := a)
    have h2 := List.countP_le_length (p := isK 1 1) (l := b)
    rw [laws_FnTrails.l1_eq, show decide ((i : Int) < ln (mrg (a.length + b.length) a b)) = false from not_lt_nat hi, i_count _ (by omega), i_count a (by omega), i_count b (by omega), c0]
    have e1 : w64 (ln a + ln b) = ((a.length + b.length : Nat) : Int) := by
      show w64 ((a.length : Int) + (b.length : Int)) = _
      rw [w64_id (by omega) (by omega)]; omega
    have e2 : ln (mrg (a.length + b.length) a b) = ((a.length + b.length : Nat) : Int) := by show (((mrg (a.length + b.length) a b).length : Nat) : Int) = _; rw [hlen]
    rw [e1, e2, decide_eq_true rfl]
    show rB (decide (((a.countP (isK 1 1) + b.countP (isK 1 1) : Nat) : Int) = w64 (((a.countP (isK 1 1) : Nat) : Int) + ((b.countP (isK 1 1) : Nat) : Int)))) = rB true
    rw [w64_id (by omega) (by omega), decide_eq_true (by omega)]
  have step : ∀ k i : Nat, 1 ≤ i → i + k = max 1 (mrg (a.length + b.length) a b).length → laws_FnTrails.l1 (i : Int) a b (mrg (a.length + b.length) a b) = rB true := by
    intro k
    induction k with
    | zero => intro i h1 hk; exact hend i (by omega)
    | succ k ih =>
      intro i h1 hk
      have hi : i < (mrg (a.length + b.length) a b).length := by omega
      have ep : w64 ((i : Int) - 1) = ((i - 1 : Nat) : Int) := by rw [w64_id (by omega) (by omega)]; omega
      rw [laws_FnTrails.l1_eq, show decide ((i : Int) < ln (mrg (a.length + b.length) a b)) = true from lt_nat hi, i_trail a (by omega), i_trail b (by omega), w64_nat (by omega), ih (i + 1) (by omega) (by omega), ep, in_nat hi, in_nat (show i - 1 < (mrg (a.length + b.length) a b).length by omega)]
      show (bif isTrail a then (bif isTrail b then (bif decide (gi (mrg (a.length + b.length) a b) ((i - 1 : Nat) : Int) 1 > gi (mrg (a.length + b.length) a b) (i : Int) 1) then rB false else rB true) else rB true) else rB true) = rB true
      cases hta : isTrail a
      · rfl
      cases htb : isTrail b
      · rfl
      have hs := mrg_srt (a.length + b.length) a b (trail_srt a [] hta).1 (trail_srt b [] htb).1
      have hi1 : i - 1 < (mrg (a.length + b.length) a b).length := by omega
      have hle := List.pairwise_iff_getElem.1 hs (i - 1) i hi1 hi (by omega)
      have g1 : gi (mrg (a.length + b.length) a b) ((i - 1 : Nat) : Int) 1 = ui ((mrg (a.length + b.length) a b)[i - 1]'hi1) 1 := by
        unfold gi
        rw [Int.toNat_natCast, getD_of_some (List.getElem?_eq_getElem hi1)]
      have g2 : gi (mrg (a.length + b.length) a b) (i : Int) 1 = ui ((mrg (a.length + b.length) a b)[i]'hi) 1 := by
        unfold gi
        rw [Int.toNat_natCast, getD_of_some (List.getElem?_eq_getElem hi)]
      rw [g1, g2, decide_eq_false (by omega)]; rfl
  exact step (max 1 (mrg (a.length + b.length) a b).length - 1) 1 (Nat.le_refl _) (by omega)
theorem join_part {s : LL} (hs : s.length ≤ 1048576) : ((spec_DrawJoinTrails.c s).bind fun r13 => (impl_JoinTrails.c (r13.l 0) (r13.lj 1 0)).bind fun r14 => laws_FnTrails.l1 1 (r13.l 0) (r13.lj 1 0) (r14.l 0)) = rB true := by
  obtain ⟨a, b, e, ha, hb⟩ := draw_join hs
  rw [e]
  show ((impl_JoinTrails.c a b).bind fun r14 => laws_FnTrails.l1 1 a b (r14.l 0)) = rB true
  rw [impl_JoinTrails.eq, join_loop (a.length + b.length) a b [] (Nat.le_refl _) (by simp; omega), List.nil_append]
  exact joined a b ha hb
theorem noticed {s : LL} (hs : s.length ≤ 1048576) (x : LL) (hx : x.length ≤ 61) : laws_FnTrails.l0 s x 0 = rB true := by
  have step : ∀ k i : Nat, i + k = x.length → laws_FnTrails.l0 s x (i : Int) = rB true := by
    intro k
    induction k with
    | zero =>
      intro i hk
      rw [laws_FnTrails.l0_eq, w64_nat (by omega), show decide (((i + 1 : Nat) : Int) < ln x) = false from not_lt_nat (by omega)]
      exact join_part hs
    | succ k ih =>
      intro i hk
      have hi : i < x.length := by omega
      rw [laws_FnTrails.l0_eq, w64_nat (by omega)]
      cases hd : decide (((i + 1 : Nat) : Int) < ln x)
      · exact join_part hs
      · have l1 : (List.take ((i : Int) - 0).toNat (List.drop (Int.toNat 0) x)).length ≤ 61 := by
          rw [List.length_take, List.length_drop]; omega
        have l2 : (List.take (ln x - ((i + 1 : Nat) : Int)).toNat (List.drop (((i + 1 : Nat) : Int)).toNat x)).length ≤ 61 := by
          rw [List.length_take, List.length_drop]; omega
        have e0 : ln x = (x.length : Int) := rfl
        have b1 : decide ((0 : Int) ≤ 0 ∧ (0 : Int) ≤ (i : Int) ∧ (i : Int) ≤ ln x) = true := decide_eq_true (by rw [e0]; omega)
        have b2 : decide ((0 : Int) ≤ ((i + 1 : Nat) : Int) ∧ ((i + 1 : Nat) : Int) ≤ ln x ∧ ln x ≤ ln x) = true := decide_eq_true (by rw [e0]; omega)
        generalize List.take ((i : Int) - 0).toNat (List.drop (Int.toNat 0) x) = y1 at l1 ⊢
        generalize List.take (ln x - ((i + 1 : Nat) : Int)).toNat (List.drop (((i + 1 : Nat) : Int)).toNat x) = y2 at l2 ⊢
        have r1 : room (0 + x.length) 72 = true := room_true (by omega) (by omega)
        have r2 : room (0 + y1.length) 72 = true := room_true (by omega) (by omega)
        have r3 : room (y1.length + y2.length) 72 = true := room_true (by omega) (by omega)
        rw [r1, r2, r3, b1, b2, in_nat hi, ih (i + 1) (by omega), i_trail (setEl x _ _ _) (by rw [setEl_length]; omega), s_trail (setEl x _ _ _) (by rw [setEl_length]; omega), i_trail (y1 ++ y2) (by rw [List.length_append]; omega), s_trail (y1 ++ y2) (by rw [List.length_append]; omega)]
        simp only [gt_, q0, qb]
        generalize isTrail (setEl x _ _ _) = p
        generalize isTrail (y1 ++ y2) = q
        cases p <;> cases q <;> rfl
  exact step x.length 0 (by omega)
theorem trails_true (s : LL) : laws_FnTrails.c s = rB true := by
  rw [laws_FnTrails.eq, laws_big.eq]
  cases hb : decide (ln s > 1048576)
  · have hs : s.length ≤ 1048576 := by
      have hb : ¬ ((s.length : Int) > 1048576) := of_decide_eq_false hb
      omega
    obtain ⟨l, i0, i1, i2, i3, i4, i5, i6, i7, i8, e, hl, h9⟩ := draw_append hs
    have hj := join_part hs
    rw [e]
    simp only [q0, qb, cond_false]
    show ((impl_AppendEntry.c l i0 i1 i2 i3 i4 i5 i6 i7 i8).bind _) = _
    rw [i_append l (by omega)]
    cases he : entOk l i0 i1
    · exact hj
    · have hx : (l ++ [entRow l i0 i1 i2 i3 i4 i5 i6 i7]).length = l.length + 1 := by rw [List.length_append]; rfl
      show ((impl_IsTrail.c l).bind _) = _
      rw [i_trail l (by omega)]
      cases ht : isTrail l
      · show ((impl_IsTrail.c l).bind _) = _
        rw [i_trail l (by omega), ht]
        exact hj
      · show ((impl_IsTrail.c (l ++ [entRow l i0 i1 i2 i3 i4 i5 i6 i7])).bind _) = _
        rw [i_trail _ (by omega), isTrail_app ht h9 he]
        show ((impl_IsExtension.c l (l ++ [entRow l i0 i1 i2 i3 i4 i5 i6 i7])).bind _) = _
        rw [ext_app l (by omega)]
        have e1 : decide (ln (l ++ [entRow l i0 i1 i2 i3 i4 i5 i6 i7]) = w64 (ln l + 1)) = true := decide_eq_true (by
          show (((l ++ [entRow l i0 i1 i2 i3 i4 i5 i6 i7]).length : Nat) : Int) = w64 ((l.length : Int) + 1)
          rw [hx, w64_nat (by omega)])
        show (bif !decide (ln (l ++ [entRow l i0 i1 i2 i3 i4 i5 i6 i7]) = w64 (ln l + 1)) then rB false else ((impl_IsTrail.c l).bind fun r6 => bif r6.b 0 then laws_FnTrails.l0 s (l ++ [entRow l i0 i1 i2 i3 i4 i5 i6 i7]) 0 else _)) = _
        rw [e1, i_trail l (by omega), ht]
        exact noticed hs _ (by omega)
  · rfl
end
theorem FnTrails_pure (u0 : List U) (W0 : WTs tabs.ct (tabs.ct 22) u0) : dn 3 [argSV tabs 22 u0] [] = some ⟨[[.bool true]], []⟩ := by
  have h : WTs tabs.ct [.slc 5] u0 := W0
  obtain ⟨v, _, rfl, k, hn⟩ := h.cons
  obtain rfl := hn.nil
  obtain ⟨s, rfl, _⟩ := k.slc_inv
  exact trails_true s
end Go.Proofs.Ytlkcpabdpmenpaa.Eng
