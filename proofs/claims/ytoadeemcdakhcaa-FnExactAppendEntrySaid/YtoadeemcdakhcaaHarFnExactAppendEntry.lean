/- The law's helpers, in plain words (FnExactAppendEntry). Written by a program of ours. -/
import Derived.Test.YtoadeemcdakhcaaLib
import Derived.Test.YtoadeemcdakhcaaPFnExactAppendEntryx0
import Derived.Test.YtoadeemcdakhcaaPFnExactAppendEntryx1
import Derived.Test.YtoadeemcdakhcaaPFnExactAppendEntryx2
import Derived.Test.YtoadeemcdakhcaaPFnExactAppendEntryx3
import Derived.Test.YtoadeemcdakhcaaPFnExactAppendEntryx4
import Derived.Test.YtoadeemcdakhcaaPFnExactAppendEntryx5
import Derived.Test.YtoadeemcdakhcaaPFnExactAppendEntryx6
import Derived.Test.YtoadeemcdakhcaaPFnExactAppendEntryx7
namespace Go.Proofs.Ytoadeemcdakhcaa.PFnExactAppendEntry
open Go.RowKit Go.Proofs.YtoadeemcdakhcaaW.PrintWords Go.Proofs.YtoadeemcdakhcaaW.PrintLast Go.Proofs.YtoadeemcdakhcaaW.PrintMore PL
set_option linter.unusedVariables false
set_option linter.unusedSimpArgs false
def cv25 (x : S25) : S28 := ⟨x.f0, x.f1, x.f2, x.f3, x.f4, x.f5, x.f6, x.f7, x.f8⟩
theorem sz_EntryS (l : List S25) (n : Int) (hl : l.length ≤ 9223372036854775807) (h0 : 0 ≤ n) (h1 : n ≤ 1048576) : laws_szEntryS.f l n = some (if (l.length : Int) ≤ n then n - l.length else -1) := by
  unfold laws_szEntryS.f
  rw [wrap64_id (by omega) (by omega)]
  by_cases h : (l.length : Int) ≤ n
  · rw [if_neg (by omega), if_pos h]
  · rw [if_pos (by omega), if_neg h]
theorem rdn25 (l : List S25) (i : Nat) (h : i < l.length) : rd_T25 l (i : Int) = l[i] := getD_nat l z25 i h
theorem rds25 (l : List S25) (v : S25) (i : Nat) (h : i < l.length) : rd_T25 (l.set i v) (i : Int) = v := set_get l i v z25 h
theorem rdn28 (l : List S28) (i : Nat) (h : i < l.length) : rd_T28 l (i : Int) = l[i] := getD_nat l z28 i h
theorem rds28 (l : List S28) (v : S28) (i : Nat) (h : i < l.length) : rd_T28 (l.set i v) (i : Int) = v := set_get l i v z28 h
theorem to_EntryS (l : List S25) (hl : l.length ≤ 1000000000000) : Ev (fun k => laws_toEntryS.f k l) (l.map cv25) := by
  unfold laws_toEntryS.f
  refine Ev.pos (by omega) (Ev.pos (by omega) ?_)
  refine fill (fun k s i => laws_toEntryS.l0 k l s i) l z28 cv25 (fun s => ?_) (fun i s r hi hs h => ?_)
  · exact Ev.step (fun k => laws_toEntryS.l0.eq_2 _ _ _ _) (Ev.neg (by omega) (Ev.now _))
  · refine Ev.step (fun k => laws_toEntryS.l0.eq_2 _ _ _ _) (Ev.pos (by omega) (Ev.pos (by omega) (Ev.bindE rfl (Ev.pos (by omega) ?_))))
    rw [wrap64_nat (by omega), rdn25 l i hi]
    exact h
theorem eq_EntryS (l : List S28) (hl : l.length ≤ 9223372036854775806) : Ev (fun k => laws_eqEntryS.f k l l) true := by
  unfold laws_eqEntryS.f
  refine Ev.pos rfl ?_
  refine down (P := fun i => Ev (fun k => laws_eqEntryS.l0 k l l (i : Int)) true) l.length ?_ ?_ 0 (Nat.zero_le _)
  · exact Ev.step (fun k => laws_eqEntryS.l0.eq_2 _ _ _ _) (Ev.neg (by omega) (Ev.now _))
  · intro i hi h
    refine Ev.step (fun k => laws_eqEntryS.l0.eq_2 _ _ _ _) (Ev.pos (by omega) (Ev.pos (by omega) (Ev.pos (by omega) (Ev.bindE (a := true) ?_ (Ev.pos rfl ?_)))))
    · simp [laws_eqEntry.f]
    · rw [wrap64_nat (by omega)]
      exact h
def mk28 (q : Int) : S28 := ⟨q, q + 1, q + 2, q + 3, q + 4, q + 5, q + 6, q + 7, q + 8⟩
theorem mark_EntryS (l : List S28) (m : Int) (hl : l.length ≤ 1000000000) (hm : 0 ≤ m) (hb : m ≤ 1000000000000) : Ev (fun k => laws_markEntryS.f k l m) (m + 9 * (l.length : Int), marked mk28 9 m l.length) := by
  unfold laws_markEntryS.f
  refine markloop (fun k s q i => laws_markEntryS.l0 k s q i) mk28 9 m l hm (by omega) (by omega) (fun s q hs => ?_) (fun i s q r hi hs h0 h1 h => ?_)
  · exact Ev.step (fun k => laws_markEntryS.l0.eq_2 _ _ _ _) (Ev.neg (by omega) (Ev.now _))
  · refine Ev.step (fun k => laws_markEntryS.l0.eq_2 _ _ _ _) (Ev.pos (by omega) (Ev.pos (by omega) ?_))
    refine Ev.bindS ?_
    simp only [Int.toNat_natCast, List.set_set, rds28 _ _ _ (show i < s.length by omega)]
    refine Ev.bindS ?_
    simp only [Int.toNat_natCast, List.set_set, rds28 _ _ _ (show i < s.length by omega)]
    refine Ev.bindS ?_
    simp only [Int.toNat_natCast, List.set_set, rds28 _ _ _ (show i < s.length by omega)]
    refine Ev.bindS ?_
    simp only [Int.toNat_natCast, List.set_set, rds28 _ _ _ (show i < s.length by omega)]
    refine Ev.bindS ?_
    simp only [Int.toNat_natCast, List.set_set, rds28 _ _ _ (show i < s.length by omega)]
    refine Ev.bindS ?_
    simp only [Int.toNat_natCast, List.set_set, rds28 _ _ _ (show i < s.length by omega)]
    refine Ev.bindS ?_
    simp only [Int.toNat_natCast, List.set_set, rds28 _ _ _ (show i < s.length by omega)]
    refine Ev.bindS ?_
    simp only [Int.toNat_natCast, List.set_set, rds28 _ _ _ (show i < s.length by omega)]
    rw [wrap64_nat (n := i) (by omega)]
    simp (disch := omega) only [wrap64_id]
    refine Ev.congr (fun k => ?_) h
    congr 1
    all_goals first | rfl | omega | (simp only [mk28]; congr 1; congr 1 <;> omega) | (simp only [mk28, Int.add_assoc]; rfl)
theorem held_EntryS (m : Int) (n : Nat) (hl : n ≤ 1000000000) (hm : 0 ≤ m) (hb : m ≤ 1000000000000) : Ev (fun k => laws_heldEntryS.f k (marked mk28 9 m n) m) (m + 9 * (n : Int)) := by
  unfold laws_heldEntryS.f
  refine heldloop (fun k q i => laws_heldEntryS.l0 k (marked mk28 9 m n) q i) mk28 9 m n hm (by omega) (by omega) (fun q => ?_) (fun i q r hi hv h0 h1 h => ?_)
  · exact Ev.step (fun k => laws_heldEntryS.l0.eq_2 _ _ _ _) (Ev.neg (by rw [marked_length]; omega) (Ev.now _))
  · refine Ev.step (fun k => laws_heldEntryS.l0.eq_2 _ _ _ _) (Ev.pos (by rw [marked_length]; omega) (Ev.pos (by omega) ?_))
    have e : rd_T28 (marked mk28 9 m n) (i : Int) = mk28 q := (rdn28 _ i (by rw [marked_length]; exact hi)).trans hv
    rw [e]
    simp (disch := omega) only [wrap64_id]
    repeat refine Ev.pos (by first | rfl | (simp only [mk28]; omega)) ?_
    refine Ev.congr (fun k => ?_) h
    congr 1
    all_goals first | rfl | omega
end Go.Proofs.Ytoadeemcdakhcaa.PFnExactAppendEntry
