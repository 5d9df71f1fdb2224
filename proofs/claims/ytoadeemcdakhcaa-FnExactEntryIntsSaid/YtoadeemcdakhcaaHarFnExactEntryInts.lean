/- The law's helpers, in plain words (FnExactEntryInts). Written by a program of ours. -/
import Derived.Test.YtoadeemcdakhcaaLib
import Derived.Test.YtoadeemcdakhcaaPFnExactEntryIntsx0
import Derived.Test.YtoadeemcdakhcaaPFnExactEntryIntsx1
namespace Go.Proofs.Ytoadeemcdakhcaa.PFnExactEntryInts
open Go.RowKit Go.Proofs.YtoadeemcdakhcaaW.PrintWords Go.Proofs.YtoadeemcdakhcaaW.PrintLast Go.Proofs.YtoadeemcdakhcaaW.PrintMore PL
set_option linter.unusedVariables false
set_option linter.unusedSimpArgs false
theorem eq_IntS (l : List Int) (hl : l.length ≤ 9223372036854775806) : Ev (fun k => laws_eqIntS.f k l l) true := by
  unfold laws_eqIntS.f
  refine Ev.pos rfl ?_
  refine down (P := fun i => Ev (fun k => laws_eqIntS.l0 k l l (i : Int)) true) l.length ?_ ?_ 0 (Nat.zero_le _)
  · exact Ev.step (fun k => laws_eqIntS.l0.eq_2 _ _ _ _) (Ev.neg (by omega) (Ev.now _))
  · intro i hi h
    refine Ev.step (fun k => laws_eqIntS.l0.eq_2 _ _ _ _) (Ev.pos (by omega) (Ev.pos (by omega) (Ev.pos (by omega) ?_)))
    first | refine Ev.pos rfl ?_ | refine Ev.neg (by simp) ?_
    rw [wrap64_nat (by omega)]
    exact h
theorem mark_IntS (l : List Int) (m : Int) (hl : l.length ≤ 1000000000) (hm : 0 ≤ m) (hb : m ≤ 1000000000000) : Ev (fun k => laws_markIntS.f k l m) (m + 1 * (l.length : Int), marked (fun q => q) 1 m l.length) := by
  unfold laws_markIntS.f
  refine markloop (fun k s q i => laws_markIntS.l0 k s q i) (fun q => q) 1 m l hm (by omega) (by omega) (fun s q hs => ?_) (fun i s q r hi hs h0 h1 h => ?_)
  · exact Ev.step (fun k => laws_markIntS.l0.eq_2 _ _ _ _) (Ev.neg (by omega) (Ev.now _))
  · refine Ev.step (fun k => laws_markIntS.l0.eq_2 _ _ _ _) (Ev.pos (by omega) (Ev.pos (by omega) ?_))
    rw [wrap64_nat (by omega), wrap64_id (n := q + 1) (by omega) (by omega)]
    exact h
theorem held_IntS (m : Int) (n : Nat) (hl : n ≤ 1000000000) (hm : 0 ≤ m) (hb : m ≤ 1000000000000) : Ev (fun k => laws_heldIntS.f k (marked (fun q => q) 1 m n) m) (m + 1 * (n : Int)) := by
  unfold laws_heldIntS.f
  refine heldloop (fun k q i => laws_heldIntS.l0 k (marked (fun q => q) 1 m n) q i) (fun q => q) 1 m n hm (by omega) (by omega) (fun q => ?_) (fun i q r hi hv h0 h1 h => ?_)
  · exact Ev.step (fun k => laws_heldIntS.l0.eq_2 _ _ _ _) (Ev.neg (by rw [marked_length]; omega) (Ev.now _))
  · refine Ev.step (fun k => laws_heldIntS.l0.eq_2 _ _ _ _) (Ev.pos (by rw [marked_length]; omega) (Ev.pos (by omega) ?_))
    have e : rd (marked (fun q => q) 1 m n) (i : Int) = (fun q => q) q := (getD_nat _ 0 i (by rw [marked_length]; exact hi)).trans hv
    rw [e]
    simp (disch := omega) only [wrap64_id]
    repeat refine Ev.pos (by first | rfl | (simp only [and_self]; omega)) ?_
    refine Ev.congr (fun k => ?_) h
    congr 1
    all_goals first | rfl | omega
end Go.Proofs.Ytoadeemcdakhcaa.PFnExactEntryInts
