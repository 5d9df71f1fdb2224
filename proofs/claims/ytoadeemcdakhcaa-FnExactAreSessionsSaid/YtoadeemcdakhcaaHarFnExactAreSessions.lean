/- The law's helpers, in plain words (FnExactAreSessions). Written by a program of ours. -/
import Derived.Test.YtoadeemcdakhcaaLib
import Derived.Test.YtoadeemcdakhcaaPFnExactAreSessionsx0
import Derived.Test.YtoadeemcdakhcaaPFnExactAreSessionsx1
import Derived.Test.YtoadeemcdakhcaaPFnExactAreSessionsx2
import Derived.Test.YtoadeemcdakhcaaPFnExactAreSessionsx3
namespace Go.Proofs.Ytoadeemcdakhcaa.PFnExactAreSessions
open Go.RowKit Go.Proofs.YtoadeemcdakhcaaW.PrintWords Go.Proofs.YtoadeemcdakhcaaW.PrintLast Go.Proofs.YtoadeemcdakhcaaW.PrintMore PL
set_option linter.unusedVariables false
set_option linter.unusedSimpArgs false
theorem sz_SessionS (l : List S79) (n : Int) (hl : l.length ≤ 9223372036854775807) (h0 : 0 ≤ n) (h1 : n ≤ 1048576) : laws_szSessionS.f l n = some (if (l.length : Int) ≤ n then n - l.length else -1) := by
  unfold laws_szSessionS.f
  rw [wrap64_id (by omega) (by omega)]
  by_cases h : (l.length : Int) ≤ n
  · rw [if_neg (by omega), if_pos h]
  · rw [if_pos (by omega), if_neg h]
def cv77 (x : S77) : S72 := ⟨x.f0, x.f1, x.f2, x.f3, x.f4, x.f5⟩
def cv79 (x : S79) : S74 := ⟨x.f0, x.f1, x.f2, cv77 x.f3, x.f4⟩
theorem rdn79 (l : List S79) (i : Nat) (h : i < l.length) : rd_T79 l (i : Int) = l[i] := getD_nat l z79 i h
theorem rds79 (l : List S79) (v : S79) (i : Nat) (h : i < l.length) : rd_T79 (l.set i v) (i : Int) = v := set_get l i v z79 h
theorem rdn74 (l : List S74) (i : Nat) (h : i < l.length) : rd_T74 l (i : Int) = l[i] := getD_nat l z74 i h
theorem rds74 (l : List S74) (v : S74) (i : Nat) (h : i < l.length) : rd_T74 (l.set i v) (i : Int) = v := set_get l i v z74 h
theorem to_SessionS (l : List S79) (hl : l.length ≤ 1000000000000) : Ev (fun k => laws_toSessionS.f k l) (l.map cv79) := by
  unfold laws_toSessionS.f
  refine Ev.pos (by omega) (Ev.pos (by omega) ?_)
  refine fill (fun k s i => laws_toSessionS.l0 k l s i) l z74 cv79 (fun s => ?_) (fun i s r hi hs h => ?_)
  · exact Ev.step (fun k => laws_toSessionS.l0.eq_2 _ _ _ _) (Ev.neg (by omega) (Ev.now _))
  · refine Ev.step (fun k => laws_toSessionS.l0.eq_2 _ _ _ _) (Ev.pos (by omega) (Ev.pos (by omega) (Ev.bindE rfl (Ev.pos (by omega) ?_))))
    rw [wrap64_nat (by omega), rdn79 l i hi]
    exact h
theorem eq_SessionS (l : List S74) (hl : l.length ≤ 9223372036854775806) : Ev (fun k => laws_eqSessionS.f k l l) true := by
  unfold laws_eqSessionS.f
  refine Ev.pos rfl ?_
  refine down (P := fun i => Ev (fun k => laws_eqSessionS.l0 k l l (i : Int)) true) l.length ?_ ?_ 0 (Nat.zero_le _)
  · exact Ev.step (fun k => laws_eqSessionS.l0.eq_2 _ _ _ _) (Ev.neg (by omega) (Ev.now _))
  · intro i hi h
    refine Ev.step (fun k => laws_eqSessionS.l0.eq_2 _ _ _ _) (Ev.pos (by omega) (Ev.pos (by omega) (Ev.pos (by omega) (Ev.bindE (a := true) ?_ (Ev.pos rfl ?_)))))
    · simp [laws_eqSession.f, laws_eqRequest.f]
    · rw [wrap64_nat (by omega)]
      exact h
end Go.Proofs.Ytoadeemcdakhcaa.PFnExactAreSessions
