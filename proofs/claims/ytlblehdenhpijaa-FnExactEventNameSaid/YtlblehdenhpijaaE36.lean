/- The evaluator, part 36: loops and functions by their equations. Of no program. -/
import Derived.Test.YtlblehdenhpijaaE35
namespace Go.Proofs.Ytlblehdenhpijaa.Eng
open Go.RowKit
set_option linter.unusedVariables false

/-- What follows a place in code. -/
def kAtI (E : Env) : Code → List Nat → CK → CK
  | .seq a b, i :: p, K => if i = 0 then kAtI E a p (fun x st' => match x with | .normal => runC E b st' K | x => K x st') else kAtI E b p K
  | .cond _ a b, i :: p, K => if i = 0 then kAtI E a p K else kAtI E b p K
  | .block id b, _ :: p, K => kAtI E b p fun x st' => match x with | .exit i => if i = id then K .normal st' else K (.exit i) st' | x => K x st'
  | .loop b, _ :: p, K => kAtI E b p (loopK (fun st' => fSt (st'.clean (headHint E b)) fun st' => E.iter b (fun st => st.clean (headHint E b)) (runC E b) st' K) K)
  | _, _, K => K
/-- A loop of a function. -/
def Conf.loopI (C : Conf) (P : Program) (D : Den) (I : Iter) (g : FuncId) (ps : List TypeId) (path : List Nat) (st : St) : Option Ret :=
  I (cat (codeOf P g) (path ++ [0])) (fun st => st.clean (headHint (C.env P D I g) (cat (codeOf P g) (path ++ [0])))) (runC (C.env P D I g) (cat (codeOf P g) (path ++ [0]))) st (kAtI (C.env P D I g) (codeOf P g) path (C.outOf P g ps))
/-- The same, one round written out. -/
def Conf.loopS (C : Conf) (P : Program) (D : Den) (I : Iter) (g : FuncId) (ps : List TypeId) (path : List Nat) (st : St) : Option Ret :=
  runC (C.env P D I g) (cat (codeOf P g) (path ++ [0])) st (loopK (fun st' => fSt (st'.clean (headHint (C.env P D I g) (cat (codeOf P g) (path ++ [0])))) fun st' => C.loopI P D I g ps path st') (kAtI (C.env P D I g) (codeOf P g) path (C.outOf P g ps)))
/-- Functions and loops obey their equations. -/
structure Fix (C : Conf) (P : Program) (D : Den) (I : Iter) : Prop where
  den : ∀ g svs rts, D g svs rts = C.body P D I g svs rts
  it : ∀ g ps path st, C.loopI P D I g ps path st = C.loopS P D I g ps path st
theorem fix_denL {C : Conf} {P : Program} (hprim : ∀ g, C.prim g = none) : Fix C P (C.denL P) iterL :=
  ⟨denL_eq hprim, fun g ps path st => iterL_eq (runC_ok g _) st⟩
/-- Slots, by those of which something is known. -/
def slots : Nat → List (Nat × SV) → List SV
  | n, xs => (List.range n).map fun i => (xs.lookup i).getD .no
end Go.Proofs.Ytlblehdenhpijaa.Eng
