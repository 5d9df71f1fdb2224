/- Shares, counts, certificates of a world. -/
import Derived.Test.YtpkhifegfpehpaaGreatH
namespace Go.Proofs.YtpkhifegfpehpaaGreat.Eng
open Go.RowKit
set_option linter.unusedVariables false
set_option linter.unusedSimpArgs false
set_option maxRecDepth 100000
abbrev v0 (x : List U) : Int := (x.getD 0 U0).toInt
theorem s_max (a b : Int) : spec_Max.c dn a b = rI (max b a) := by
  rw [spec_Max.eq fix]
  by_cases h : b > a
  · rw [decide_eq_true h, Int.max_eq_left (by omega)]; rfl
  · rw [decide_eq_false h, Int.max_eq_right (by omega)]; rfl
theorem s_min (a b : Int) : spec_Min.c dn a b = rI (min b a) := by
  rw [spec_Min.eq fix]
  by_cases h : b < a
  · rw [decide_eq_true h, Int.min_eq_left (by omega)]; rfl
  · rw [decide_eq_false h, Int.min_eq_right (by omega)]; rfl
theorem same_sum (xs : List (List U)) (hx : xs.length ≤ 1048576) : SameI (spec_SumShares.c dn xs) (impl_SumShares.c dn xs) := by
  rw [spec_SumShares.eq fix, impl_SumShares.eq fix]
  refine twin_loop (A := fun (s : Int) i => spec_SumShares.l0 dn iterJ xs s i) (B := fun s i => impl_SumShares.l0 dn iterJ s xs _ i) (n := xs.length) (P := SameI) (fun s => ?_) (fun i hi s => .inr ?_) 0
  · exact ⟨s, by rw [spec_SumShares.l0_eq fix, not_lt_nat (Nat.le_refl _)]; rfl, by rw [impl_SumShares.l0_eq fix, not_lt_nat (Nat.le_refl _)]; rfl⟩
  · refine ⟨_, by rw [spec_SumShares.l0_eq fix, lt_nat hi, inRange_nat, decide_eq_true hi, wrap_nat (by omega), s_max]; simp only [Option.bind_some]; rw [s_min]; rfl, ?_⟩
    rw [impl_SumShares.l0_eq fix, lt_nat hi, inRange_nat, decide_eq_true hi, wrap_nat (by omega)]
    show impl_SumShares.l0 dn iterJ (IntKind.i64.wrap (s + max (min _ 101) 0)) _ _ _ = impl_SumShares.l0 dn iterJ (IntKind.i64.wrap (s + min (max _ 0) 101)) _ _ _
    congr 3
    generalize ((xs.getD (Int.toNat (i : Int)) []).getD 1 U0).toInt = v
    show max (min v 101) 0 = min (max v 0) 101
    omega
theorem same_count (xs : List (List U)) (hx : xs.length ≤ 1048576) (k o : Int) : SameI (spec_CountEntries.c dn xs k o) (impl_CountEntries.c dn xs k o) := by
  rw [spec_CountEntries.eq fix, impl_CountEntries.eq fix]
  refine twin_loop (A := fun (s : Int) i => spec_CountEntries.l0 dn iterJ xs k o s i) (B := fun s i => impl_CountEntries.l0 dn iterJ k o s xs _ i) (n := xs.length) (P := SameI) (fun s => ?_) (fun i hi s => .inr ?_) 0
  · exact ⟨s, by rw [spec_CountEntries.l0_eq fix, not_lt_nat (Nat.le_refl _)]; rfl, by rw [impl_CountEntries.l0_eq fix, not_lt_nat (Nat.le_refl _)]; rfl⟩
  · rw [spec_CountEntries.l0_eq fix, impl_CountEntries.l0_eq fix, lt_nat hi, inRange_nat, decide_eq_true hi, wrap_nat (by omega), Int.toNat_natCast]
    cases decide (((xs.getD i []).getD 0 U0).toInt = k)
    · exact ⟨s, rfl, rfl⟩
    · cases decide (((xs.getD i []).getD 6 U0).toInt = o)
      · exact ⟨s, rfl, rfl⟩
      · exact ⟨_, rfl, rfl⟩
theorem trail_le {ts : List (List U)} {i : Nat} {l : List (List U)} (hi : i < ts.length) (hr : ts.getD i [] = [.lst l]) : cntRs l < cntRs ts := by
  have h := cntR_mem (getD_mem hi (z := []))
  rw [hr] at h
  simpa only [cntR, cntU, Nat.add_zero] using h
theorem s_answers (a0 : Int) (a1 a2 a3 a4 : List (List U)) (a5 : Int) (a6 a7 a8 a9 : List (List U)) (a10 : Int) (a11 a12 a13 a14 a15 a16 : List (List U)) (a17 : Int) (a18 a19 : List (List U)) (o : Int) (h : WR tabs.ct 109 a9) (hc : cntRs a9 ≤ 1048576) : SameI (spec_CountAnswers.c dn a0 a1 a2 a3 a4 a5 a6 a7 a8 a9 a10 a11 a12 a13 a14 a15 a16 a17 a18 a19 o) (impl_CountAnswers.c dn a0 a1 a2 a3 a4 a5 a6 a7 a8 a9 a10 a11 a12 a13 a14 a15 a16 a17 a18 a19 o) := by
  have hl := cntRs_length a9
  rw [spec_CountAnswers.eq fix, impl_CountAnswers.eq fix]
  refine twin_loop (A := fun (s : Int) i => spec_CountAnswers.l0 dn iterJ o s i a0 a1 a2 a3 a4 a5 a6 a7 a8 a9 a10 a11 a12 a13 a14 a15 a16 a17 a18 a19) (B := fun s i => impl_CountAnswers.l0 dn iterJ o s a9 _ i) (n := a9.length) (P := SameI) (fun s => ?_) (fun i hi s => .inr ?_) 0
  · exact ⟨s, by rw [spec_CountAnswers.l0_eq fix, not_lt_nat (Nat.le_refl _)]; rfl, by rw [impl_CountAnswers.l0_eq fix, not_lt_nat (Nat.le_refl _)]; rfl⟩
  · obtain ⟨l, hr, hw⟩ := row109 (h.2 _ (getD_mem hi (z := [])))
    have h1 := trail_le hi hr
    have h2 := cntRs_length l
    obtain ⟨n, h3, h4⟩ := same_count l (by omega) 1 o
    rw [spec_CountAnswers.l0_eq fix, impl_CountAnswers.l0_eq fix, lt_nat hi, inRange_nat, decide_eq_true hi, wrap_nat (by omega), Int.toNat_natCast, hr]
    refine ⟨IntKind.i64.wrap (s + n), ?_, ?_⟩
    · show ((spec_CountEntries.c dn l 1 o).bind _) = _
      rw [h3]; rfl
    · show ((impl_CountEntries.c dn l 1 o).bind _) = _
      rw [h4]; rfl
theorem s_cert (xs : List (List U)) (hx : xs.length ≤ 1048576) (v : Int) : spec_l35Cert.c dn xs v = rI (pos (fun i => decide (v0 (xs.getD i []) = v)) xs.length 0) := by
  rw [spec_l35Cert.eq fix]
  refine find_loop (l0 := fun i => spec_l35Cert.l0 dn iterJ xs v i) (n := xs.length) (p := fun i => decide (v0 (xs.getD i []) = v)) ?_ fun i hi => ?_
  · rw [spec_l35Cert.l0_eq fix, not_lt_nat (Nat.le_refl _)]; rfl
  · rw [spec_l35Cert.l0_eq fix, lt_nat hi, inRange_nat, decide_eq_true hi, wrap_nat (by omega)]; rfl
theorem i_cert (xs : List (List U)) (hx : xs.length ≤ 1048576) (v : Int) : impl_certOf.c dn xs v = rI (pos (fun i => decide (v0 (xs.getD i []) = v)) xs.length 0) := by
  rw [impl_certOf.eq fix, slices_IndexFunc.eq fix]
  have : slices_IndexFunc.l0 dn iterJ xs v xs.length 0 = rI (pos (fun i => decide (v0 (xs.getD i []) = v)) xs.length 0) := by
    refine find_loop (l0 := fun i => slices_IndexFunc.l0 dn iterJ xs v _ i) (n := xs.length) (p := fun i => decide (v0 (xs.getD i []) = v)) ?_ fun i hi => ?_
    · rw [slices_IndexFunc.l0_eq fix, not_lt_nat (Nat.le_refl _)]; rfl
    · rw [slices_IndexFunc.l0_eq fix, lt_nat hi, inRange_nat, decide_eq_true hi, wrap_nat (by omega), impl_certOf_1.eq fix]; rfl
  rw [this]; rfl
end Go.Proofs.YtpkhifegfpehpaaGreat.Eng
