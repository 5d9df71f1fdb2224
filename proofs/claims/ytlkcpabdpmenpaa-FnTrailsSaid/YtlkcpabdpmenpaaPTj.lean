/- Trails that grow; two trails joined; entries counted. -/
import Derived.Test.YtlkcpabdpmenpaaPTd
namespace Go.Proofs.Ytlkcpabdpmenpaa.Eng
open Go.RowKit
set_option linter.unusedVariables false
set_option linter.unusedSimpArgs false
set_option linter.unusedSectionVars false
set_option maxRecDepth 100000
variable [Sm]
theorem ent9_eq {x y : List U} (h : ent9 x y = true) (hx : E9 x) (hy : E9 y) : x = y := by
  unfold ent9 at h
  simp only [Bool.and_eq_true, decide_eq_true_eq, and_true] at h
  obtain ⟨h0, h1, h2, h3, h4, h5, h6, h7, h8⟩ := h
  rw [hx, hy, h0, h1, h2, h3, h4, h5, h6, h7, h8]
theorem ent9_refl (x : List U) : ent9 x x = true := by simp [ent9]
theorem rowFor9 (s : LL) (x : List U) : E9 (rowFor s x) := rfl
theorem trailL_app : ∀ (xs ys s : LL), trailL xs s = true → (∀ x ∈ xs, E9 x) → trailL (xs ++ ys) s = trailL ys (s ++ xs)
  | [], ys, s, _, _ => by rw [List.nil_append, List.append_nil]
  | x :: xs, ys, s, h, h9 => by
    simp only [trailL, Bool.and_eq_true] at h
    obtain ⟨h1, h2, h3⟩ := h
    have hx : rowFor s x = x := ent9_eq h2 (rowFor9 s x) (h9 x (by simp))
    have ih := trailL_app xs ys (s ++ [rowFor s x]) h3 fun y hy => h9 y (by simp [hy])
    show (entOk s (ui x 0) (ui x 1) && (ent9 (rowFor s x) x && trailL (xs ++ ys) (s ++ [rowFor s x]))) = _
    rw [ih, h1, h2, hx, List.append_assoc]; rfl
theorem isTrail_app {l : LL} (h : isTrail l = true) (h9 : ∀ x ∈ l, E9 x) {i0 i1 : Int} (he : entOk l i0 i1 = true) (i2 i3 i4 i5 i6 i7 : Int) : isTrail (l ++ [entRow l i0 i1 i2 i3 i4 i5 i6 i7]) = true := by
  unfold isTrail
  rw [trailL_app l _ [] h h9, List.nil_append]
  show (entOk l i0 i1 && (ent9 (entRow l i0 i1 i2 i3 i4 i5 i6 i7) (entRow l i0 i1 i2 i3 i4 i5 i6 i7) && true)) = true
  rw [he, ent9_refl]; rfl
theorem equal_refl (l : LL) (hl : l.length ≤ 1048576) : slices_Equal_Entry.c l l = rB true := by
  rw [slices_Equal_Entry.eq, decide_eq_true (show ln l = ln l from rfl)]
  refine all_loop (l0 := fun i => slices_Equal_Entry.l0 l l (ln l) i) (n := l.length) ?_ fun i hi => ?_
  · rw [slices_Equal_Entry.l0_eq, show decide (((l.length : Nat) : Int) < ln l) = false from not_lt_nat (Nat.le_refl _)]; rfl
  · rw [slices_Equal_Entry.l0_eq, show decide ((i : Int) < ln l) = true from lt_nat hi, in_nat hi, w64_nat (by omega)]
    simp
theorem ext_app (l : LL) (hl : l.length ≤ 1048576) (r : List U) : impl_IsExtension.c l (l ++ [r]) = rB true := by
  have e : ln (l ++ [r]) = ((l.length + 1 : Nat) : Int) := by show (((l ++ [r]).length : Nat) : Int) = _; rw [List.length_append]; rfl
  have e0 : ln l = (l.length : Int) := rfl
  have et : List.take (ln l - 0).toNat (List.drop (Int.toNat 0) (l ++ [r])) = l := by
    show List.take (ln l - 0).toNat (l ++ [r]) = l
    rw [show (ln l - 0).toNat = l.length from by rw [e0]; omega, List.take_left']
    rfl
  rw [impl_IsExtension.eq, et, equal_refl l hl, decide_eq_true (show ln l ≤ ln (l ++ [r]) by rw [e, e0]; omega), decide_eq_true (show (0 : Int) ≤ 0 ∧ (0 : Int) ≤ ln l ∧ ln l ≤ ln (l ++ [r]) by rw [e, e0]; omega)]
  rfl
/-! ### Joined -/
def nine (x : List U) : List U := [U.int (ui x 0), U.int (ui x 1), U.int (ui x 2), U.int (ui x 3), U.int (ui x 4), U.int (ui x 5), U.int (ui x 6), U.int (ui x 7), U.int (ui x 8)]
def mrg : Nat → LL → LL → LL
  | 0, _, _ => []
  | n + 1, [], [] => []
  | n + 1, [], b :: ys => nine b :: mrg n [] ys
  | n + 1, a :: xs, [] => nine a :: mrg n xs []
  | n + 1, a :: xs, b :: ys => bif decide (ui a 1 ≤ ui b 1) then nine a :: mrg n xs (b :: ys) else nine b :: mrg n (a :: xs) ys
theorem tail_eq (x : List U) (xs : LL) : List.take (ln (x :: xs) - 1).toNat (List.drop (Int.toNat 1) (x :: xs)) = xs := by
  have e : (ln (x :: xs) - 1).toNat = xs.length := by show (((xs.length + 1 : Nat) : Int) - 1).toNat = _; omega
  rw [e]
  show List.take xs.length xs = xs
  exact List.take_length
theorem cons_pos (x : List U) (xs : LL) : decide (ln (x :: xs) > 0) = true := decide_eq_true (by show ((xs.length + 1 : Nat) : Int) > 0; omega)
theorem cons_nz (x : List U) (xs : LL) : decide (ln (x :: xs) = 0) = false := decide_eq_false (by show ¬ ((xs.length + 1 : Nat) : Int) = 0; omega)
theorem cons_one (x : List U) (xs : LL) : decide ((0 : Int) ≤ 1 ∧ (1 : Int) ≤ ln (x :: xs) ∧ ln (x :: xs) ≤ ln (x :: xs)) = true := decide_eq_true (by show (0 : Int) ≤ 1 ∧ (1 : Int) ≤ ((xs.length + 1 : Nat) : Int) ∧ ((xs.length + 1 : Nat) : Int) ≤ ((xs.length + 1 : Nat) : Int); omega)
theorem cons_in (x : List U) (xs : LL) : inRange 0 (x :: xs).length = true := inRange_true (Int.le_refl _) (by show (0 : Int) < ((xs.length + 1 : Nat) : Int); omega)
theorem nil_pos : decide (ln ([] : LL) > 0) = false := rfl
theorem nil_z : decide (ln ([] : LL) = 0) = true := rfl
theorem join_loop : ∀ (n : Nat) (xs ys acc : LL), xs.length + ys.length ≤ n → acc.length + n ≤ 1048576 → impl_JoinTrails.l0 xs ys acc = rL (acc ++ mrg n xs ys)
  | n, [], [], acc, hn, ha => by
    have e : mrg n [] [] = [] := by cases n <;> rfl
    rw [impl_JoinTrails.l0_eq, e, List.append_nil]; rfl
  | 0, a :: xs, ys, acc, hn, ha => by simp at hn
  | 0, [], b :: ys, acc, hn, ha => by simp at hn
  | n + 1, a :: xs, [], acc, hn, ha => by
    have hr : room (acc.length + 1) 72 = true := room_true (by omega) (by omega)
    have ih := join_loop n xs [] (acc ++ [nine a]) (by simp at hn ⊢; omega) (by simp; omega)
    rw [impl_JoinTrails.l0_eq, cons_pos, nil_z, cons_in, cons_one, tail_eq]
    show grd (room (acc.length + 1) 72) (impl_JoinTrails.l0 xs [] (acc ++ [nine a])) = _
    rw [hr, ih, List.append_assoc]; rfl
  | n + 1, [], b :: ys, acc, hn, ha => by
    have hr : room (acc.length + 1) 72 = true := room_true (by omega) (by omega)
    have ih := join_loop n [] ys (acc ++ [nine b]) (by simp at hn ⊢; omega) (by simp; omega)
    rw [impl_JoinTrails.l0_eq, nil_pos, cons_pos, cons_nz, cons_in, cons_one, tail_eq]
    show grd (room (acc.length + 1) 72) (impl_JoinTrails.l0 [] ys (acc ++ [nine b])) = _
    rw [hr, ih, List.append_assoc]; rfl
  | n + 1, a :: xs, b :: ys, acc, hn, ha => by
    have hr : room (acc.length + 1) 72 = true := room_true (by omega) (by omega)
    have i1 := join_loop n xs (b :: ys) (acc ++ [nine a]) (by simp at hn ⊢; omega) (by simp; omega)
    have i2 := join_loop n (a :: xs) ys (acc ++ [nine b]) (by simp at hn ⊢; omega) (by simp; omega)
    rw [impl_JoinTrails.l0_eq, cons_pos, cons_nz, cons_in, cons_in, cons_one, cons_one, tail_eq, tail_eq]
    show (bif decide (ui a 1 ≤ ui b 1) then grd (room (acc.length + 1) 72) (impl_JoinTrails.l0 xs (b :: ys) (acc ++ [nine a])) else grd (room (acc.length + 1) 72) (impl_JoinTrails.l0 (a :: xs) ys (acc ++ [nine b]))) = rL (acc ++ bif decide (ui a 1 ≤ ui b 1) then nine a :: mrg n xs (b :: ys) else nine b :: mrg n (a :: xs) ys)
    rw [hr, i1, i2]
    cases decide (ui a 1 ≤ ui b 1) <;> simp [grd]
theorem mrg_len : ∀ (n : Nat) (xs ys : LL), xs.length + ys.length ≤ n → (mrg n xs ys).length = xs.length + ys.length
  | n, [], [], hn => by have e : mrg n [] [] = [] := by cases n <;> rfl
                        rw [e]; rfl
  | 0, a :: xs, ys, hn => by simp at hn
  | 0, [], b :: ys, hn => by simp at hn
  | n + 1, a :: xs, [], hn => by have := mrg_len n xs [] (by simp at hn ⊢; omega); simp [mrg, this]
  | n + 1, [], b :: ys, hn => by have := mrg_len n [] ys (by simp at hn ⊢; omega); simp [mrg, this]
  | n + 1, a :: xs, b :: ys, hn => by
    have i1 := mrg_len n xs (b :: ys) (by simp at hn ⊢; omega)
    have i2 := mrg_len n (a :: xs) ys (by simp at hn ⊢; omega)
    unfold mrg
    cases decide (ui a 1 ≤ ui b 1)
    · simp only [cond_false, List.length_cons, i2]; omega
    · simp only [cond_true, List.length_cons, i1]; omega
theorem mrg_cnt (P : List U → Bool) (hP : ∀ x, P (nine x) = P x) : ∀ (n : Nat) (xs ys : LL), xs.length + ys.length ≤ n → (mrg n xs ys).countP P = xs.countP P + ys.countP P
  | n, [], [], hn => by have e : mrg n [] [] = [] := by cases n <;> rfl
                        rw [e]; rfl
  | 0, a :: xs, ys, hn => by simp at hn
  | 0, [], b :: ys, hn => by simp at hn
  | n + 1, a :: xs, [], hn => by have := mrg_cnt P hP n xs [] (by simp at hn ⊢; omega); simp [mrg, List.countP_cons, hP, this]
  | n + 1, [], b :: ys, hn => by have := mrg_cnt P hP n [] ys (by simp at hn ⊢; omega); simp [mrg, List.countP_cons, hP, this]
  | n + 1, a :: xs, b :: ys, hn => by
    have i1 := mrg_cnt P hP n xs (b :: ys) (by simp at hn ⊢; omega)
    have i2 := mrg_cnt P hP n (a :: xs) ys (by simp at hn ⊢; omega)
    unfold mrg
    cases decide (ui a 1 ≤ ui b 1)
    · simp only [cond_false, List.countP_cons, hP, i2]; omega
    · simp only [cond_true, List.countP_cons, hP, i1]; omega
theorem mrg_mem : ∀ (n : Nat) (xs ys : LL) (x : List U), x ∈ mrg n xs ys → ∃ y, (y ∈ xs ∨ y ∈ ys) ∧ x = nine y
  | 0, xs, ys, x, hx => by simp [mrg] at hx
  | n + 1, [], [], x, hx => by simp [mrg] at hx
  | n + 1, a :: xs, [], x, hx => by
    simp only [mrg, List.mem_cons] at hx
    rcases hx with rfl | hx
    · exact ⟨a, .inl (by simp), rfl⟩
    · obtain ⟨y, h1, h2⟩ := mrg_mem n xs [] x hx
      exact ⟨y, h1.imp (fun h => by simp [h]) id, h2⟩
  | n + 1, [], b :: ys, x, hx => by
    simp only [mrg, List.mem_cons] at hx
    rcases hx with rfl | hx
    · exact ⟨b, .inr (by simp), rfl⟩
    · obtain ⟨y, h1, h2⟩ := mrg_mem n [] ys x hx
      exact ⟨y, h1.imp id (fun h => by simp [h]), h2⟩
  | n + 1, a :: xs, b :: ys, x, hx => by
    unfold mrg at hx
    cases hd : decide (ui a 1 ≤ ui b 1)
    · rw [hd] at hx
      simp only [cond_false, List.mem_cons] at hx
      rcases hx with rfl | hx
      · exact ⟨b, .inr (by simp), rfl⟩
      · obtain ⟨y, h1, h2⟩ := mrg_mem n (a :: xs) ys x hx
        exact ⟨y, h1.imp id (fun h => by simp [h]), h2⟩
    · rw [hd] at hx
      simp only [cond_true, List.mem_cons] at hx
      rcases hx with rfl | hx
      · exact ⟨a, .inl (by simp), rfl⟩
      · obtain ⟨y, h1, h2⟩ := mrg_mem n xs (b :: ys) x hx
        exact ⟨y, h1.imp (fun h => by simp [h]) id, h2⟩
/-- In the order of time. -/
def Srt (xs : LL) : Prop := xs.Pairwise fun x y => ui x 1 ≤ ui y 1
theorem mrg_srt : ∀ (n : Nat) (xs ys : LL), Srt xs → Srt ys → Srt (mrg n xs ys)
  | 0, xs, ys, _, _ => List.Pairwise.nil
  | n + 1, [], [], _, _ => List.Pairwise.nil
  | n + 1, a :: xs, [], ha, hb => by
    have h := List.pairwise_cons.1 ha
    refine List.pairwise_cons.2 ⟨fun x hx => ?_, mrg_srt n xs [] h.2 hb⟩
    obtain ⟨y, h1, rfl⟩ := mrg_mem n xs [] x hx
    rcases h1 with h1 | h1
    · exact h.1 y h1
    · simp at h1
  | n + 1, [], b :: ys, ha, hb => by
    have h := List.pairwise_cons.1 hb
    refine List.pairwise_cons.2 ⟨fun x hx => ?_, mrg_srt n [] ys ha h.2⟩
    obtain ⟨y, h1, rfl⟩ := mrg_mem n [] ys x hx
    rcases h1 with h1 | h1
    · simp at h1
    · exact h.1 y h1
  | n + 1, a :: xs, b :: ys, ha, hb => by
    have h := List.pairwise_cons.1 ha
    have k := List.pairwise_cons.1 hb
    unfold mrg
    cases hd : decide (ui a 1 ≤ ui b 1)
    · have hd : ¬ ui a 1 ≤ ui b 1 := of_decide_eq_false hd
      refine List.pairwise_cons.2 ⟨fun x hx => ?_, mrg_srt n (a :: xs) ys ha k.2⟩
      obtain ⟨y, h1, rfl⟩ := mrg_mem n (a :: xs) ys x hx
      show ui b 1 ≤ ui y 1
      rcases h1 with h1 | h1
      · rcases List.mem_cons.1 h1 with rfl | h1
        · omega
        · have := h.1 y h1; omega
      · exact k.1 y h1
    · have hd : ui a 1 ≤ ui b 1 := of_decide_eq_true hd
      refine List.pairwise_cons.2 ⟨fun x hx => ?_, mrg_srt n xs (b :: ys) h.2 hb⟩
      obtain ⟨y, h1, rfl⟩ := mrg_mem n xs (b :: ys) x hx
      show ui a 1 ≤ ui y 1
      rcases h1 with h1 | h1
      · exact h.1 y h1
      · rcases List.mem_cons.1 h1 with rfl | h1
        · exact hd
        · have := k.1 y h1; omega
theorem trail_srt : ∀ (xs s : LL), trailL xs s = true → Srt xs ∧ ∀ x ∈ xs, Upto s (ui x 1)
  | [], s, _ => ⟨List.Pairwise.nil, fun x hx => by simp at hx⟩
  | x :: xs, s, h => by
    simp only [trailL, Bool.and_eq_true] at h
    obtain ⟨h1, h2, h3⟩ := h
    obtain ⟨q1, q2⟩ := trail_srt xs _ h3
    have hu : Upto s (ui x 1) := by
      unfold entOk at h1
      simp only [Bool.and_eq_true] at h1
      exact h1.2.2.2
    have hle : ∀ y ∈ xs, ui x 1 ≤ ui y 1 := fun y hy => by
      have := q2 y hy
      unfold Upto lastOk at this
      have hg : (s ++ [rowFor s x]).getD ((s ++ [rowFor s x]).length - 1) [] = rowFor s x := by
        rw [List.length_append, List.length_singleton, Nat.add_sub_cancel]; exact app_get _ _
      rw [hg, show decide (ln (s ++ [rowFor s x]) > 0) = true from decide_eq_true (by show (((s ++ [rowFor s x]).length : Nat) : Int) > 0; rw [List.length_append]; show ((s.length + 1 : Nat) : Int) > 0; omega)] at this
      have this : (!decide (ui y 1 < ui x 1)) = true := this
      have : ¬ ui y 1 < ui x 1 := by simpa using this
      omega
    refine ⟨List.pairwise_cons.2 ⟨hle, q1⟩, fun y hy => ?_⟩
    rcases List.mem_cons.1 hy with rfl | hy
    · exact hu
    · exact upto_mono hu (hle y hy)
/-! ### Counted -/
def isK (k o : Int) (x : List U) : Bool := decide (ui x 0 = k) && decide (ui x 6 = o)
theorem count_fold (k o : Int) : ∀ (xs : LL) (n : Nat), n + xs.length ≤ 4611686018427387904 → xs.foldl (fun (s : Int) x => bif isK k o x then w64 (s + 1) else s) (n : Int) = ((n + xs.countP (isK k o) : Nat) : Int)
  | [], n, _ => rfl
  | x :: xs, n, h => by
    simp only [List.length_cons] at h
    rw [List.foldl_cons, List.countP_cons]
    cases isK k o x
    · show xs.foldl _ (n : Int) = _
      rw [count_fold k o xs n (by omega)]; simp
    · show xs.foldl _ (w64 ((n : Int) + 1)) = _
      rw [w64_nat (by omega), count_fold k o xs (n + 1) (by omega)]; simp; omega
theorem i_count (xs : LL) (hx : xs.length ≤ 1048576) (k o : Int) : impl_CountEntries.c xs k o = rI ((xs.countP (isK k o) : Nat) : Int) := by
  have h := count_fold k o xs 0 (by omega)
  rw [Nat.zero_add] at h
  rw [impl_CountEntries.eq, ← h]
  refine foldL (l0 := fun s i => impl_CountEntries.l0 k o s xs (ln xs) i) (R := rI) (st := fun (s : Int) x => bif isK k o x then w64 (s + 1) else s) (fun s => ?_) (fun i hi s => ?_) 0
  · rw [impl_CountEntries.l0_eq, show decide (((xs.length : Nat) : Int) < ln xs) = false from not_lt_nat (Nat.le_refl _)]; rfl
  · rw [impl_CountEntries.l0_eq, show decide ((i : Int) < ln xs) = true from lt_nat hi, in_nat hi, w64_nat (by omega)]
    unfold isK
    show (bif decide (ui (xs.getD i []) 0 = k) then (bif decide (ui (xs.getD i []) 6 = o) then _ else _) else _) = _
    cases decide (ui (xs.getD i []) 0 = k) <;> cases decide (ui (xs.getD i []) 6 = o) <;> rfl
end Go.Proofs.Ytlkcpabdpmenpaa.Eng
