/- The evaluator, part 4: regions, code, functions. Of no program. -/
import Derived.Test.YtlblehdenhpijaaE3
namespace Go.Proofs.Ytlblehdenhpijaa.Eng
open Go.RowKit
set_option linter.unusedVariables false

section
variable {R : Type}
/-- One operation that is carried out. -/
def opK (E : Env) (o : Oper) (st : St) (K : St → Option R) : Option R :=
  match o.op with
  | .alloc t => allocK E.T st t o.dst K
  | .box t x => boxK E.T st t (ev st x) o.dst K
  | .build t parts => buildK E.T (ev st) t parts.toList fun v => K (st.put o.dst v)
  | .buildSlice t len parts => buildSliceK E.T st t len parts.toList o.dst K
  | .makeSlice t l c => makeSliceK E.T st t l c o.dst K
  | .store t a x => storeK E.T st t (ev st a) (ev st x) o.dst K
  | .call c => match c.callee, c.args.toList, c.argTypes.toList with
    | .value f, args, _ => (match ev st f with
      | .fn g caps => callK E st g (args.map (ev st)) caps o.dst K
      | _ => none)
    | .builtin .append, [s, x], [t, t2] => appendK E.T st t t2 (ev st s) (ev st x) o.dst K
    | _, _, _ => qK E.T E.eqT st.rt (ev st) o.op fun v => K (st.put o.dst v)
  | .assign x => (match ev st x, E.T.elem o.type with
    | .c .nil, some e => K ((st.add (.row e true [])).put o.dst (.c (.al st.rt.length [] e)))
    | v, _ => K (st.put o.dst v))
  | _ => qK E.T E.eqT st.rt (ev st) o.op fun v => K (st.put o.dst v)
/-- One operation of a region whose order is drawn: it changes nothing but its temporary. -/
def opD (E : Env) (o : Oper) (st : St) (K : SV → Option R) : Option R :=
  match o.op with
  | .build t parts => buildK E.T (ev st) t parts.toList K
  | .call c => match c.callee, c.args.toList, c.argTypes.toList with
    | .value f, args, _ => (match ev st f with
      | .fn g caps => callD E st g (args.map (ev st)) caps K
      | _ => none)
    | _, _, _ => qK E.T E.eqT st.rt (ev st) o.op K
  | _ => qK E.T E.eqT st.rt (ev st) o.op K
/-- Whether an operation is carried out. -/
def wantedK (ops : List Oper) (o : Oper) (st : St) (yes no : St → Option R) : Option R :=
  match o.guard with
  | none => yes st
  | some (j, want) => match (ops[j]?).bind (·.dst) with
    | none => none
    | some t => match st.sl.getD t .no with
      | .c (.bool b) =>
        bif b then (if want then yes { st with sl := st.sl.set t (.c (.bool true)) } else no { st with sl := st.sl.set t (.c (.bool true)) })
        else (if want then no { st with sl := st.sl.set t (.c (.bool false)) } else yes { st with sl := st.sl.set t (.c (.bool false)) })
      | .ud => no st
      | _ => none
def killAll (st : St) : List Oper → St
  | [] => st
  | o :: os => killAll (match o.guard with | some _ => st.put o.dst .no | none => st) os
def isPick (o : Oper) : Bool := match o.op, o.guard with | .pick .., none => true | _, _ => false
def runOps (E : Env) (ops : List Oper) : List Oper → St → (St → Option R) → Option R
  | [], st, K => K st
  | o :: os, st, K => wantedK ops o st (fun st => opK E o st fun st' => fSt (if isPick o then killAll st' ops else st') fun st' => runOps E ops os st' K) (fun st => fSt (st.put o.dst .ud) fun st' => runOps E ops os st' K)
/-- The order of a region is drawn: its operations, in the text's order. -/
def runD (E : Env) (ops : List Oper) : List Oper → St → (St → Option R) → Option R
  | [], st, K => K st
  | o :: os, st, K => wantedK ops o st (fun st => opD E o st fun v => fSt (st.put o.dst v) fun st' => runD E ops os st' K) (fun st => fSt (st.put o.dst .ud) fun st' => runD E ops os st' K)
def waits (o : Oper) (i : Nat) : Bool := o.after.toList.any fun e => e.on == i && Region.binds .any e
def looks (ops : List Oper) (o : Oper) : List Tmp :=
  (o.op.operands.toList.filterMap fun | .tmp t => some t | _ => none) ++ (match o.guard with | some (g, _) => ((ops[g]?).bind (·.dst)).toList | none => [])
/-- Two operations, i ahead of j: j waits for i, or they do not meet. -/
def pairOK (ops : List Oper) (i : Nat) (x y : Oper) : Bool :=
  waits y i || ((match x.dst with | some d => !(looks ops y).elem d && !decide (y.dst = some d) | none => true) && (match y.dst with | some d => !(looks ops x).elem d | none => true))
def drawOK (ops : List Oper) : Bool :=
  ops.zipIdx.all fun y => (y.1.after.toList.all fun e => !Region.binds .any e || decide (e.on < y.2)) && (ops.zipIdx.all fun x => !decide (x.2 < y.2) || pairOK ops x.2 x.1 y.1) &&
    (match y.1.op with | .select .. => false | _ => true)
end
def loopK (rec : St → Option Ret) (K : Ext → St → Option Ret) : Ext → St → Option Ret := fun x st' => match x with
  | .normal => rec st'
  | x => K x st'
def Ret.u (r : Ret) (j i : Nat) : U := (r.res.getD j []).getD i U0
def Ret.m (r : Ret) (j : Nat) : List (List U) := r.ms.getD j []
/-- Rounds. -/
def rounds (cl : St → St) (F : St → (Ext → St → Option Ret) → Option Ret) : Nat → St → (Ext → St → Option Ret) → Option Ret
  | 0, _, _ => none
  | n + 1, st, K => F st (loopK (fun st' => fSt (cl st') fun st' => rounds cl F n st' K) K)
def firstRegion : Code → Option Nat
  | .region id _ _ => some id
  | .seq a b => match firstRegion a with | some i => some i | none => firstRegion b
  | .block _ b | .loop b => firstRegion b
  | .cond _ a b => match firstRegion a with | some i => some i | none => firstRegion b
  | _ => none
def headHint (E : Env) (body : Code) : Option HintR := match firstRegion body with | some id => E.hint id | none => none
def runC (E : Env) : Code → St → (Ext → St → Option Ret) → Option Ret
  | .skip, st, K => K .normal st
  | .region id ops draw, st, K =>
    if draw then (if drawOK ops.toList then runD E ops.toList ops.toList st fun st' => K .normal (killAll st' ops.toList) else none)
    else runOps E ops.toList ops.toList st fun st' => K .normal st'
  | .seq a b, st, K => runC E a st fun x st' => match x with | .normal => runC E b st' K | x => K x st'
  | .cond c a b, st, K => match ev st c with | .c (.bool z) => bif z then runC E a st K else runC E b st K | _ => none
  | .block id body, st, K => runC E body st fun x st' => match x with | .exit i => if i = id then K .normal st' else K (.exit i) st' | x => K x st'
  | .loop body, st, K => fSt (st.clean (headHint E body)) fun st => E.iter body (fun st => st.clean (headHint E body)) (runC E body) st K
  | .exit id, st, K => K (.exit id) st
  | .ret, st, K => K .ret st
  | _, _, _ => none

/-! ### Functions -/
/-- The cells of a result. -/
def resultCls (T : Tabs) (st : St) (t : TypeId) : ResultVar → Option (List Cl)
  | .tmp x => match st.sl.getD x .no, T.agg t with
    | .c .no, _ => none
    | .c c, false => some [c] | .ag cs, true => some cs | _, _ => none
  | .cell x t' => match st.sl.getD x .no with
    | .bx r 0 => match st.rt[r]? with
      | some (.box _ cs) => if t' = t ∧ (T.row t).d.known ∧ cs.length = T.size t then some cs else none
      | _ => none
    | _ => none
/-- What leaves: its data, the roots that leave with it ('none': a nil slice). -/
def outCls (rt : List Root) (md : RM) (np : Nat) : List CT → List Cl → Option (List U × List (Option Nat))
  | [], [] => some ([], [])
  | .slc e :: ts, x :: xs => match x with
    | .nil => (outCls rt md np ts xs).map fun y => (.lst [] :: y.1, if md = .ro then y.2 else none :: y.2)
    | .rd e' ys => if e = e' ∧ md = .ro then (outCls rt md np ts xs).map fun y => (.lst ys :: y.1, y.2) else none
    | .al r p e' => (match rt[r]? with
      | some (.row e0 deep ys) => if e = e' ∧ np ≤ r then
          (if md = .ro then (outCls rt md np ts xs).map fun y => (.lst (getP ys p) :: y.1, y.2)
          else if p = [] ∧ e0 = e ∧ deep = decide (md = .own) then (outCls rt md np ts xs).map fun y => (.lst ys :: y.1, some r :: y.2) else none)
          else none
      | _ => none)
    | _ => none
  | t :: ts, x :: xs => if ctMatch t x && !t.isSlc then (outCls rt md np ts xs).map fun y => (clU rt x :: y.1, y.2) else none
  | _, _ => none
def outAll (T : Tabs) (st : St) (np : Nat) : List RM → List TypeId → List ResultVar → Option (List (List U) × List (Option Nat))
  | _, [], [] => some ([], [])
  | rm, t :: ts, r :: rs => match resultCls T st t r with
    | some cs => match outCls st.rt (rm.headD .own) np (T.ct t) cs, outAll T st np rm.tail ts rs with
      | some a, some b => some (a.1 :: b.1, a.2 ++ b.2)
      | _, _ => none
    | none => none
  | _, _, _ => none
def outMs (rt : List Root) : List TypeId → Nat → Option (List (List (List U)))
  | [], _ => some []
  | e :: ps, i => match rt[i]?, outMs rt ps (i + 1) with
    | some (.row e' true xs), some b => if e = e' then some (xs :: b) else none
    | _, _ => none
def rootTypes : List Root → List TypeId
  | [] => []
  | .row e _ _ :: ps => e :: rootTypes ps
  | _ :: ps => 0 :: rootTypes ps
def retK (T : Tabs) (sg : Sig) (rts : List TypeId) (rvs : List ResultVar) (ps : List TypeId) (st : St) : Option Ret :=
  match outAll T st ps.length sg.rs rts rvs, outMs st.rt ps 0 with
  | some (res, rs), some ms => if nodupB (rs.filterMap id) ∧ (sg.rs.elem .ro = false ∨ rs.isEmpty = true) then some ⟨res, ms⟩ else none
  | _, _ => none
structure Conf where
  T : Tabs
  eqT : TypeId → Bool
  sig : FuncId → Sig
  hint : FuncId → Nat → Option HintR
  prim : FuncId → Option (List SV → List Root → Option Ret)
def fnsOf (P : Program) (g : FuncId) : Option (List TypeId × List TypeId) := (P.funcs[g]?).map fun f => (f.params.toList, f.resultTypes.toList)
def Conf.env (C : Conf) (P : Program) (den : FuncId → List SV → List Root → Option Ret) (iter : Code → (St → St) → (St → (Ext → St → Option Ret) → Option Ret) → St → (Ext → St → Option Ret) → Option Ret) (g : FuncId) : Env := ⟨C.T, C.eqT, C.sig, fnsOf P, den, iter, C.hint g⟩
/-- What follows a function's code. -/
def Conf.out (C : Conf) (g : FuncId) (rts : List TypeId) (rvs : List ResultVar) (ps : List TypeId) : Ext → St → Option Ret := fun x st => match x with
  | .exit _ => none
  | _ => retK C.T (C.sig g) rts rvs ps st
def Conf.body (C : Conf) (P : Program) (den : FuncId → List SV → List Root → Option Ret) (iter : Code → (St → St) → (St → (Ext → St → Option Ret) → Option Ret) → St → (Ext → St → Option Ret) → Option Ret) (g : FuncId) (svs : List SV) (rts : List Root) : Option Ret :=
  match C.prim g with
  | some f => f svs rts
  | none => match P.funcs[g]? with
    | some fn => match fn.body with
      | some c => runC (C.env P den iter g) c ⟨svs ++ List.replicate (fn.ntmps - svs.length) .no, rts, rts.length⟩ (C.out g fn.resultTypes.toList fn.results.toList (rootTypes rts))
      | none => none
    | none => none
/-- What a function does to data, with fuel. -/
def Conf.den (C : Conf) (P : Program) : Nat → FuncId → List SV → List Root → Option Ret
  | 0, _, _, _ => none
  | k + 1, g, svs, rts => C.body P (C.den P k) (fun _ cl F => rounds cl F k) g svs rts

abbrev Den := FuncId → List SV → List Root → Option Ret
def codeOf (P : Program) (g : FuncId) : Code := match P.funcs[g]? with | some fn => fn.body.getD .skip | none => .skip
def Conf.outOf (C : Conf) (P : Program) (g : FuncId) (ps : List TypeId) : Ext → St → Option Ret := match P.funcs[g]? with | some fn => C.out g fn.resultTypes.toList fn.results.toList ps | none => fun _ _ => none

/-! ### Places in code, and what follows them -/
def cat : Code → List Nat → Code
  | c, [] => c
  | .seq a b, i :: p => if i = 0 then cat a p else cat b p
  | .cond _ a b, i :: p => if i = 0 then cat a p else cat b p
  | .block _ b, _ :: p => cat b p
  | .loop b, _ :: p => cat b p
  | c, _ => c
/-- 'n': how many rounds the loops that stand around the place may still make, from outside in. -/
def kAt (E : Env) : Code → List Nat → List Nat → (Ext → St → Option Ret) → Ext → St → Option Ret
  | .seq a b, i :: p, ns, K => if i = 0 then kAt E a p ns (fun x st' => match x with | .normal => runC E b st' K | x => K x st') else kAt E b p ns K
  | .cond _ a b, i :: p, ns, K => if i = 0 then kAt E a p ns K else kAt E b p ns K
  | .block id b, _ :: p, ns, K => kAt E b p ns fun x st' => match x with | .exit i => if i = id then K .normal st' else K (.exit i) st' | x => K x st'
  | .loop b, _ :: p, n :: ns, K => kAt E b p ns (loopK (fun st' => fSt (st'.clean (headHint E b)) fun st' => rounds (fun st => st.clean (headHint E b)) (runC E b) n st' K) K)
  | _, _, _, K => K
/-- A loop of a function, with so many rounds left. -/
def Conf.loopAt (C : Conf) (P : Program) (D : Den) (k : Nat) (g : FuncId) (ps : List TypeId) (path : List Nat) (ns : List Nat) (n : Nat) (st : St) : Option Ret :=
  rounds (fun st => st.clean (headHint (C.env P D (fun _ cl F => rounds cl F k) g) (cat (codeOf P g) (path ++ [0])))) (runC (C.env P D (fun _ cl F => rounds cl F k) g) (cat (codeOf P g) (path ++ [0]))) n st (kAt (C.env P D (fun _ cl F => rounds cl F k) g) (codeOf P g) path ns (C.outOf P g ps))
end Go.Proofs.Ytlblehdenhpijaa.Eng
