/- The evaluator, part 3: operations that make or change memory, calls, code, functions. Of no program. -/
import Derived.Test.YtlblehdenhpijaaE2
namespace Go.Proofs.Ytlblehdenhpijaa.Eng
open Go.RowKit
set_option linter.unusedVariables false

/-! ### Aliases that are no longer good -/
def Cl.purge (r : Nat) (keep : Bool) : Cl → Cl
  | .al r' p e => if r' = r then (if keep && p.isEmpty then .al r' p e else .no) else .al r' p e
  | x => x
def Cap.mapC (f : Cl → Cl) : Cap → Cap | .c x => .c (f x) | x => x
def SV.purge (r : Nat) (keep : Bool) : SV → SV
  | .c x => .c (x.purge r keep) | .ag xs => .ag (xs.map (Cl.purge r keep))
  | .po r' p e i o => if r' = r then .no else .po r' p e i o
  | .fn g caps => .fn g (caps.map (Cap.mapC (Cl.purge r keep)))
  | .tup vs => .tup (vs.map fun x => (x.1, x.2.map (Cl.purge r keep)))
  | x => x
def Root.purge (r : Nat) (keep : Bool) : Root → Root
  | .box t cs => .box t (cs.map (Cl.purge r keep)) | x => x
def St.purge (st : St) (r : Nat) (keep : Bool) : St := ⟨st.sl.map (SV.purge r keep), st.rt.map (Root.purge r keep), st.np⟩
/-- What was a root's goes into something else. -/
def St.consume (st : St) : List Nat → St
  | [] => st
  | r :: rs => ((st.purge r false).setR r .gone).consume rs
/-! ### What was one's own becomes something to be read only -/
def Cl.frz (r : Nat) (xs : List (List U)) : Cl → Cl
  | .al r' p e => if r' = r then .rd e (getP xs p) else .al r' p e
  | x => x
def SV.frz (r : Nat) (xs : List (List U)) : SV → SV
  | .c x => .c (x.frz r xs) | .ag cs => .ag (cs.map (Cl.frz r xs))
  | .po r' p e i o => if r' = r then .pr e ((getP xs p).getD i []) o else .po r' p e i o
  | .fn g caps => .fn g (caps.map (Cap.mapC (Cl.frz r xs)))
  | .tup vs => .tup (vs.map fun x => (x.1, x.2.map (Cl.frz r xs)))
  | x => x
def Root.frz (r : Nat) (xs : List (List U)) : Root → Root
  | .box t cs => .box t (cs.map (Cl.frz r xs)) | x => x
def St.freeze (st : St) (r : Nat) : St :=
  match st.rt[r]? with
  | some (.row _ _ xs) => (⟨st.sl.map (SV.frz r xs), st.rt.map (Root.frz r xs), st.np⟩ : St).setR r .gone
  | _ => st
def St.freezeAll (st : St) : List Nat → St
  | [] => st
  | r :: rs => (st.freeze r).freezeAll rs

/-! ### One shape for a loop's head, for a join -/
def Cl.rts : Cl → List Nat | .al r _ _ => [r] | _ => []
def Cap.rts : Cap → List Nat | .c x => x.rts | .bx r _ => [r] | .pr .. => []
def SV.rts : SV → List Nat
  | .c x => x.rts | .ag xs => xs.flatMap Cl.rts | .bx r _ => [r] | .pr .. => [] | .po r .. => [r] | .fn _ caps => caps.flatMap Cap.rts | .tup vs => vs.flatMap fun x => x.2.flatMap Cl.rts | .ud => []
def Root.rts : Root → List Nat | .box _ cs => cs.flatMap Cl.rts | _ => []
def dedup : List Nat → List Nat → List Nat
  | acc, [] => acc
  | acc, x :: xs => if acc.elem x then dedup acc xs else dedup (acc ++ [x]) xs
def posOf (r : Nat) : List Nat → Nat → Option Nat
  | [], _ => none
  | x :: xs, i => if x = r then some i else posOf r xs (i + 1)
def Cl.ren (ord : List Nat) : Cl → Cl
  | .al r p e => match posOf r ord 0 with | some k => .al k p e | none => .no
  | x => x
def Cap.ren (ord : List Nat) : Cap → Cap
  | .c x => .c (x.ren ord) | .bx r o => (match posOf r ord 0 with | some k => .bx k o | none => .c .no) | x => x
def SV.ren (ord : List Nat) : SV → SV
  | .c x => .c (x.ren ord) | .ag xs => .ag (xs.map (Cl.ren ord))
  | .bx r o => (match posOf r ord 0 with | some k => .bx k o | none => .no)
  | .po r p e i o => (match posOf r ord 0 with | some k => .po k p e i o | none => .no)
  | .fn g caps => .fn g (caps.map (Cap.ren ord)) | .tup vs => .tup (vs.map fun x => (x.1, x.2.map (Cl.ren ord)))
  | x => x
def Root.ren (ord : List Nat) : Root → Root
  | .box t cs => .box t (cs.map (Cl.ren ord)) | x => x
/-- What a region's entry is told: the temporaries that are still wanted; those whose rows are to be read only from here on. -/
structure HintR where
  live : List Nat
  frz : List Nat
def keepLive (live : List Nat) : List SV → Nat → List SV
  | [], _ => []
  | x :: xs, i => (if live.elem i then x else .no) :: keepLive live xs (i + 1)
def St.renum (st : St) : St :=
  let l1 := dedup (List.range st.np) (st.sl.flatMap SV.rts)
  let ord := dedup l1 (l1.flatMap fun r => match st.rt[r]? with | some x => x.rts | none => [])
  ⟨st.sl.map (SV.ren ord), ord.map fun r => match st.rt[r]? with | some x => x.ren ord | none => .gone, st.np⟩
def frzSlots (st : St) : List Nat → St
  | [] => st
  | i :: is => match st.sl.getD i .no with
    | .c (.al r [] _) => frzSlots (if st.np ≤ r then st.freeze r else st) is
    | _ => frzSlots st is
def St.clean (st : St) : Option HintR → St
  | none => st
  | some h => let st := frzSlots st h.frz; (⟨keepLive h.live st.sl 0, st.rt, st.np⟩ : St).renum

/-! ### Elements of rows -/
def clsOf : SV → Option (List Cl) | .c .no => none | .c x => some [x] | .ag xs => some xs | _ => none
/-- The data of an element that goes into a row; the roots that go into it. -/
def elemU (rt : List Root) (np : Nat) (deep : Bool) : List CT → List Cl → Option (List U × List Nat)
  | [], [] => some ([], [])
  | .slc e :: ts, .nil :: xs => (elemU rt np deep ts xs).map fun y => (.lst [] :: y.1, y.2)
  | .slc e :: ts, .rd e' ys :: xs => if deep = false ∧ e = e' then (elemU rt np deep ts xs).map fun y => (.lst ys :: y.1, y.2) else none
  | .slc e :: ts, .al r [] e' :: xs => if deep = true ∧ e = e' ∧ np ≤ r then (match rt[r]? with
      | some (.row _ true ys) => (elemU rt np deep ts xs).map fun y => (.lst ys :: y.1, r :: y.2)
      | _ => none) else none
  | .int k :: ts, .int k' n :: xs => if k = k' then (elemU rt np deep ts xs).map fun y => (.int n :: y.1, y.2) else none
  | .bool :: ts, .bool b :: xs => (elemU rt np deep ts xs).map fun y => (.bool b :: y.1, y.2)
  | .str :: ts, .str b :: xs => (elemU rt np deep ts xs).map fun y => (.str b :: y.1, y.2)
  | _, _ => none
def elemsU (rt : List Root) (np : Nat) (deep : Bool) (cts : List CT) : List (List Cl) → Option (List (List U) × List Nat)
  | [] => some ([], [])
  | x :: xs => match elemU rt np deep cts x, elemsU rt np deep cts xs with
    | some a, some b => some (a.1 :: b.1, a.2 ++ b.2)
    | _, _ => none
def hasRd (xs : List Cl) : Bool := xs.any fun | .rd .. => true | _ => false
def nodupB : List Nat → Bool | [] => true | x :: xs => !xs.elem x && nodupB xs
/-- The elements of a row's cells. -/
def chunk (size : Nat) (cs : List Cl) (len : Nat) : List (List Cl) := (List.range len).map fun i => (cs.drop (i * size)).take size
def zeroCells (cts : List CT) (n : Nat) : List Cl := (List.range n).map fun i => zeroCl (cts.getD (i % cts.length) .bool)
def buildCells (place : Nat → Option (Nat × Nat)) (ρ : Operand → SV) : List Cl → List (Nat × Operand) → Option (List Cl)
  | cs, [] => some cs
  | cs, (i, x) :: ps => match place i, clsOf (ρ x) with
    | some (o, n), some a => if a.length = n ∧ o + n ≤ cs.length then buildCells place ρ (spliceC cs o a) ps else none
    | _, _ => none

section
variable {R : Type}
def buildK (T : Tabs) (ρ : Operand → SV) (t : TypeId) (parts : List (Nat × Operand)) (K : SV → Option R) : Option R :=
  match (T.row t).d with
  | .st fs => if fs.all (fun f => (T.row f.1).d.known) then (match buildCells (fun i => (fs[i]?).map fun f => (f.2, T.size f.1)) ρ ((T.ct t).map zeroCl) parts with | some cs => K (.ag cs) | none => none) else none
  | .arr n e => if (T.row e).d.known then (match buildCells (fun i => some (i * T.size e, T.size e)) ρ ((T.ct t).map zeroCl) parts with | some cs => K (.ag cs) | none => none) else none
  | _ => none
def allocK (T : Tabs) (st : St) (t : TypeId) (d : Option Tmp) (K : St → Option R) : Option R :=
  if (T.row t).d.known then K ((st.add (.box t ((T.ct t).map zeroCl))).put d (.bx st.rt.length 0)) else none
def boxK (T : Tabs) (st : St) (t : TypeId) (x : SV) (d : Option Tmp) (K : St → Option R) : Option R :=
  match clsOf x with
  | some cs => K ((st.add (.box t cs)).put d (.bx st.rt.length 0))
  | none => none
/-- A new row of these elements. -/
def newRowK (T : Tabs) (st : St) (e : TypeId) (els : List (List Cl)) (d : Option Tmp) (K : St → Option R) : Option R :=
  let deep := !els.any hasRd
  match elemsU st.rt st.np deep (T.ct e) els with
  | some (xs, rs) => if nodupB rs then K (((st.consume rs).add (.row e deep xs)).put d (.c (.al st.rt.length [] e))) else none
  | none => none
def buildSliceK (T : Tabs) (st : St) (t : TypeId) (len : Nat) (parts : List (Nat × Operand)) (d : Option Tmp) (K : St → Option R) : Option R :=
  match T.elem t with
  | some e => if (T.row e).d.known ∧ len * T.size e ≤ 16777216 ∧ T.size e ≠ 0 then (match buildCells (fun i => some (i * T.size e, T.size e)) (ev st) (zeroCells (T.ct e) (len * T.size e)) parts with
    | some cs => newRowK T st e (chunk (T.size e) cs len) d K
    | none => none) else none
  | none => none
def room (n bytes : Nat) : Bool := decide (n * bytes ≤ 140737488355328 ∧ n ≤ 9223372036854775807)
def makeSliceK (T : Tabs) (st : St) (t : TypeId) (l c : Operand) (d : Option Tmp) (K : St → Option R) : Option R :=
  match T.elem t, ev st l, ev st c with
  | some e, .c (.int .i64 n), .c (.int .i64 m) =>
    if (T.row e).d.known ∧ T.size e ≠ 0 then
      (match l, c with
      | .tmp a, .tmp b => if a = b then (bif decide (0 ≤ m) && room m.toNat (T.row e).bytes then K ((st.add (.row e true (List.replicate m.toNat ((T.ct e).map zeroU)))).put d (.c (.al st.rt.length [] e))) else none) else none
      | .const _, .tmp _ => if n = 0 then (bif decide (0 ≤ m) && room m.toNat (T.row e).bytes then K ((st.add (.row e true [])).put d (.c (.al st.rt.length [] e))) else none) else none
      | _, _ => none)
    else none
  | _, _, _ => none
def storeK (T : Tabs) (st : St) (t : TypeId) (a x : SV) (d : Option Tmp) (K : St → Option R) : Option R :=
  match clsOf x with
  | some cs => if cs.length = T.size t ∧ (T.row t).d.known ∧ T.size t ≠ 0 then
    (match a with
    | .bx r o => match st.rt[r]? with
      | some (.box t' old) => if o + cs.length ≤ old.length then K ((st.setR r (.box t' (spliceC old o cs))).put d .no) else none
      | _ => none
    | .po r p e i o => match st.rt[r]? with
      | some (.row e0 deep xs) =>
        (match elemU st.rt st.np deep (((T.ct e).drop o).take cs.length) cs with
        | some (us, rs) => if nodupB (r :: rs) ∧ (deep = true ∨ p = []) then K ((((st.consume rs).purge r true).setR r (.row e0 deep (setP xs p (setEl (getP xs p) i o us)))).put d .no) else none
        | none => none)
      | _ => none
    | _ => none) else none
  | none => none
/-- The elements that are appended, if these are only read. -/
def srcOf (rt : List Root) : SV → Option (TypeId × List (List U))
  | .c (.rd e ys) => some (e, ys)
  | .c (.al r p e) => (match rt[r]? with | some (.row _ _ xs) => some (e, getP xs p) | _ => none)
  | _ => none
def bytesU (s : ByteArray) : List (List U) := s.data.toList.map fun b => [U.int b.toNat]
/-- A nil slice, before it is appended to, is an empty row. -/
def baseOf (st : St) (e : TypeId) : SV → Option (St × Nat)
  | .c .nil => some (st.add (.row e true []), st.rt.length)
  | .c (.al r [] e') => if e = e' then some (st, r) else none
  | _ => none
def appendK (T : Tabs) (st : St) (t t2 : TypeId) (s x : SV) (d : Option Tmp) (K : St → Option R) : Option R :=
  match T.elem t with
  | some e => if (T.row e).d.known ∧ T.size e ≠ 0 ∧ t2 = t then
    (match baseOf st e s with
    | some (st, r) => match st.rt[r]? with
      | some (.row e0 deep xs) =>
        if e0 = e ∧ st.np ≤ r then
        (if flatB (T.ct e) then
          (match (match x with
            | .c .nil => some (e, [])
            | x => srcOf st.rt x) with
          | some (e', ys) => if e' = e then
            (bif room (xs.length + ys.length) (T.row e).bytes then K (((st.purge r false).setR r (.row e deep (xs ++ ys))).put d (.c (.al r [] e))) else none) else none
          | none => none)
        else match deep, x with
          | true, .c (.al r2 [] e2) => match st.rt[r2]? with
            | some (.row e2' true ys) => if e2' = e ∧ e2 = e ∧ r2 ≠ r ∧ st.np ≤ r2 then
              (bif room (xs.length + ys.length) (T.row e).bytes then K ((((st.consume [r2]).purge r false).setR r (.row e true (xs ++ ys))).put d (.c (.al r [] e))) else none) else none
            | _ => none
          | false, .c (.rd e2 ys) => if e2 = e then
              (bif room (xs.length + ys.length) (T.row e).bytes then K (((st.purge r false).setR r (.row e false (xs ++ ys))).put d (.c (.al r [] e))) else none) else none
          | false, .c (.al r2 [] e2) => match st.rt[r2]? with
            | some (.row e2' false ys) => if e2' = e ∧ e2 = e ∧ r2 ≠ r then
              (bif room (xs.length + ys.length) (T.row e).bytes then K (((st.purge r false).setR r (.row e false (xs ++ ys))).put d (.c (.al r [] e))) else none) else none
            | _ => none
          | _, _ => none)
        else none
      | _ => none
    | none => none) else none
  | none => none

/-! ### Calls -/
def capK (T : Tabs) (rt : List Root) : Cap → Option Cap
  | .c x => some (.c (kCl rt x))
  | .bx r o => match rt[r]? with
    | some (.box t cs) => if ctsMatch (T.ct t) cs then some (.pr t (cs.map (clU rt)) o) else none
    | _ => none
  | .pr e us o => some (.pr e us o)
def capsK (T : Tabs) (rt : List Root) : List Cap → Option (List Cap)
  | [] => some []
  | x :: xs => match capK T rt x, capsK T rt xs with | some a, some b => some (a :: b) | _, _ => none
/-- An argument that the callee may read only. -/
def argK (T : Tabs) (rt : List Root) : SV → Option SV
  | .c .no => none
  | .c x => some (.c (kCl rt x)) | .ag xs => some (.ag (xs.map (kCl rt)))
  | .bx r o => (capK T rt (.bx r o)).map Cap.sv
  | .pr e us o => some (.pr e us o)
  | .po r p e i o => (match rt[r]? with | some (.row _ _ xs) => some (.pr e ((getP xs p).getD i []) o) | _ => none)
  | .fn g caps => (capsK T rt caps).map (.fn g)
  | _ => none
/-- A nil slice is read as one without elements. -/
def nilCl : CT → Cl → Cl
  | .slc e, .nil => .rd e []
  | _, x => x
def nilCls : List CT → List Cl → List Cl
  | t :: ts, x :: xs => nilCl t x :: nilCls ts xs
  | _, xs => xs
def fixNil (T : Tabs) (ty : Option TypeId) (x : SV) : SV :=
  match ty with
  | none => x
  | some t => match x with
    | .c y => (match T.ct t with | [ct] => .c (nilCl ct y) | _ => .c y)
    | .ag ys => .ag (nilCls (T.ct t) ys)
    | x => x
/-- A cell that the callee may write behind. -/
def argM (rt : List Root) (ct : CT) (x : Cl) (n : Nat) : Option (Cl × List (Root × Option (Nat × Path))) :=
  match ct, x with
  | .slc e, .al r p e' => (match rt[r]? with
    | some (.row _ true xs) => if e = e' then some (.al n [] e, [(.row e true (getP xs p), some (r, p))]) else none
    | _ => none)
  | .slc e, .nil => some (.al n [] e, [(.row e true [], none)])
  | .slc _, _ => none
  | ct, x => if ctMatch ct x then some (x, []) else none
def argsM (rt : List Root) : List CT → List Cl → Nat → Option (List Cl × List (Root × Option (Nat × Path)))
  | [], [], _ => some ([], [])
  | t :: ts, x :: xs, n => match argM rt t x n with
    | some (y, l) => (argsM rt ts xs (n + l.length)).map fun z => (y :: z.1, l ++ z.2)
    | none => none
  | _, _, _ => none
/-- All arguments: what the callee gets; its roots, with the places that they stand for; the roots that it reads. -/
def prep (T : Tabs) (rt : List Root) : List PM → List TypeId → List SV → Nat → Option (List SV × List (Root × Option (Nat × Path)) × List Nat)
  | _, _, [], _ => some ([], [], [])
  | pm, ty, x :: xs, n =>
    match pm.headD .k with
    | .k => match argK T rt x with
      | some y => (prep T rt pm.tail ty.tail xs n).map fun z => (fixNil T ty.head? y :: z.1, z.2.1, x.rts ++ (x.rts.flatMap fun r => match rt[r]? with | some c => c.rts | none => []) ++ z.2.2)
      | none => none
    | .m => match x with
      | .c c => match argsM rt (T.ct (ty.headD 0)) [c] n with
        | some ([y], l) => (prep T rt pm.tail ty.tail xs (n + l.length)).map fun z => (.c y :: z.1, l ++ z.2.1, z.2.2)
        | _ => none
      | .ag cs => match argsM rt (T.ct (ty.headD 0)) cs n with
        | some (ys, l) => (prep T rt pm.tail ty.tail xs (n + l.length)).map fun z => (.ag ys :: z.1, l ++ z.2.1, z.2.2)
        | _ => none
      | _ => none
/-- What the callee has written behind its arguments. -/
def putBack (st : St) : List (Option (Nat × Path)) → List (List (List U)) → Nat → St
  | [], _, _ => st
  | none :: ls, ms, i => putBack st ls ms (i + 1)
  | some (r, p) :: ls, ms, i =>
    match st.rt[r]? with
    | some (.row e deep xs) => putBack ((st.purge r true).setR r (.row e deep (setP xs p (ms.getD i [])))) ls ms (i + 1)
    | _ => st
/-- A result's cells, and the roots that come with it. -/
def resCells (md : RM) : List CT → List U → Nat → Nat → List Cl × List Root
  | [], _, _, _ => ([], [])
  | .slc e :: ts, us, i, n => match md with
    | .ro => let z := resCells md ts us (i + 1) n; (.rd e (us.getD i U0).toLst :: z.1, z.2)
    | md => let z := resCells md ts us (i + 1) (n + 1); (.al n [] e :: z.1, .row e (decide (md = .own)) (us.getD i U0).toLst :: z.2)
  | t :: ts, us, i, n => let z := resCells md ts us (i + 1) n; (Cl.ofU t (us.getD i U0) :: z.1, z.2)
def results1 (T : Tabs) : List RM → List TypeId → List (List U) → Nat → Nat → List (Bool × List Cl) × List Root
  | _, [], _, _, _ => ([], [])
  | rm, t :: ts, us, i, n =>
    let a := resCells (rm.headD .own) (T.ct t) (us.getD i []) 0 n
    let z := results1 T rm.tail ts us (i + 1) (n + a.2.length)
    ((T.agg t, a.1) :: z.1, a.2 ++ z.2)
def resSV : List (Bool × List Cl) → SV
  | [(true, cs)] => .ag cs
  | [(false, [c])] => .c c
  | [(false, _)] => .no
  | vs => .tup vs
inductive Ext where
  | normal | exit (id : Nat) | ret
def noBox (rt : List Root) (rs : List Nat) : Bool := rs.all fun r => match rt[r]? with | some (.row ..) => true | _ => false
structure Env where
  T : Tabs
  eqT : TypeId → Bool
  sig : FuncId → Sig
  fns : FuncId → Option (List TypeId × List TypeId)
  den : FuncId → List SV → List Root → Option Ret
  iter : Code → (St → St) → (St → (Ext → St → Option Ret) → Option Ret) → St → (Ext → St → Option Ret) → Option Ret
  hint : Nat → Option HintR
/-- A call. -/
def callK (E : Env) (st : St) (g : FuncId) (args : List SV) (caps : List Cap) (d : Option Tmp) (K : St → Option R) : Option R :=
  match E.fns g with
  | some (pts, rts) => if pts.length = args.length ∧ rts.all (fun t => (E.T.row t).d.known) then
    (match prep E.T st.rt (E.sig g).ps pts (args ++ caps.map Cap.sv) 0 with
    | some (svs, links, kr) =>
      let mr := links.filterMap fun l => l.2.map (·.1)
      let ro := (E.sig g).rs.any fun m => !decide (m = .own)
      if nodupB mr ∧ (mr.all fun r => !kr.elem r) ∧ (ro = false ∨ (noBox st.rt kr = true ∧ kr.all (fun r => decide (st.np ≤ r)) = true)) then
        fList fSV svs fun svs => fList fRoot (links.map (·.1)) fun ms => (E.den g svs ms).bind fun ret =>
          fSt (putBack (if ro then st.freezeAll (dedup [] kr) else st) (links.map (·.2)) ret.ms 0) fun st =>
          K ((⟨st.sl, st.rt ++ (results1 E.T (E.sig g).rs rts ret.res 0 st.rt.length).2, st.np⟩ : St).put d (resSV (results1 E.T (E.sig g).rs rts ret.res 0 st.rt.length).1))
      else none
    | none => none) else none
  | none => none
/-- A call in a region whose order is drawn: what comes back is to be read only. -/
def callD (E : Env) (st : St) (g : FuncId) (args : List SV) (caps : List Cap) (K : SV → Option R) : Option R :=
  match E.fns g with
  | some (pts, rts) => if pts.length = args.length ∧ rts.all (fun t => (E.T.row t).d.known) then
    (match prep E.T st.rt (E.sig g).ps pts (args ++ caps.map Cap.sv) 0 with
    | some (svs, [], kr) => if ((E.sig g).rs.any fun m => !decide (m = .own)) && !kr.isEmpty then none else
        fList fSV svs fun svs => (E.den g svs []).bind fun ret => K (resSV (results1 E.T (rts.map fun _ => RM.ro) rts ret.res 0 0).1)
    | _ => none) else none
  | none => none
end
end Go.Proofs.Ytlblehdenhpijaa.Eng
