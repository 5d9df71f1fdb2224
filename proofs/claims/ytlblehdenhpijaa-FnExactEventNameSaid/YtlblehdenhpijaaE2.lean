/- The evaluator, part 2: states and the evaluation of operations. Of no program. -/
import Derived.Test.YtlblehdenhpijaaE1
namespace Go.Proofs.Ytlblehdenhpijaa.Eng
open Go.RowKit
set_option linter.unusedVariables false

/-- The types, as the evaluator sees them. -/
inductive TD where
  | one (c : CT) | st (fs : List (TypeId × Nat)) | arr (n : Nat) (e : TypeId) | other
structure TRow where
  d : TD
  cts : List CT
  bytes : Nat
abbrev Tabs := List TRow
def Tabs.row (T : Tabs) (t : TypeId) : TRow := T.getD t ⟨.other, [], 0⟩
def Tabs.ct (T : Tabs) : Tab := fun t => (T.row t).cts
def TD.isAgg : TD → Bool | .st _ | .arr .. => true | _ => false
def TD.elem : TD → Option TypeId | .one (.slc e) => some e | _ => none
def TD.known : TD → Bool | .other => false | _ => true
def Tabs.agg (T : Tabs) (t : TypeId) : Bool := (T.row t).d.isAgg
def Tabs.elem (T : Tabs) (t : TypeId) : Option TypeId := (T.row t).d.elem
def Tabs.size (T : Tabs) (t : TypeId) : Nat := (T.row t).cts.length

abbrev Path := List (Nat × Nat)
/-- What is known of one cell. -/
inductive Cl where
  | int (k : IntKind) (n : Int) | bool (b : Bool) | str (s : ByteArray)
  | rd (e : TypeId) (xs : List (List U)) | nil | al (r : Nat) (p : Path) (e : TypeId) | no
/-- What a function value has captured. -/
inductive Cap where
  | c (x : Cl) | bx (r o : Nat) | pr (e : TypeId) (us : List U) (o : Nat)
/-- What is known of one temporary. -/
inductive SV where
  | c (x : Cl) | ag (xs : List Cl) | bx (r o : Nat) | pr (e : TypeId) (us : List U) (o : Nat) | po (r : Nat) (p : Path) (e : TypeId) (i o : Nat)
  | fn (g : FuncId) (caps : List Cap) | tup (vs : List (Bool × List Cl)) | ud
abbrev SV.no : SV := .c .no
/-- Memory of one's own. -/
inductive Root where
  | box (t : TypeId) (cs : List Cl) | row (e : TypeId) (deep : Bool) (xs : List (List U)) | gone
/-- 'np': so many roots stand for what lies behind arguments. -/
structure St where
  sl : List SV
  rt : List Root
  np : Nat
structure Ret where
  res : List (List U)
  ms : List (List (List U))
inductive PM where | k | m deriving DecidableEq
inductive RM where | own | shal | ro deriving DecidableEq
structure Sig where
  ps : List PM
  rs : List RM

def St.put (st : St) (d : Option Tmp) (v : SV) : St := match d with | some d => { st with sl := st.sl.set d v } | none => st
def St.add (st : St) (x : Root) : St := { st with rt := st.rt ++ [x] }
def St.setR (st : St) (r : Nat) (x : Root) : St := { st with rt := st.rt.set r x }

def Cl.ofU : CT → U → Cl
  | .int k, u => .int k u.toInt | .bool, u => .bool u.toBool | .str, u => .str u.toStr | .slc e, u => .rd e u.toLst
def zeroCl : CT → Cl | .int k => .int k 0 | .bool => .bool false | .str => .str ByteArray.empty | .slc _ => .nil
def zeroU : CT → U | .int _ => .int 0 | .bool => .bool false | .str => .str ByteArray.empty | .slc _ => .lst []

def rowsOf (rt : List Root) (r : Nat) : List (List U) := match rt[r]? with | some (.row _ _ xs) => xs | _ => []
def getP : List (List U) → Path → List (List U)
  | xs, [] => xs
  | xs, (i, o) :: p => getP (((xs.getD i []).getD o U0).toLst) p
def setP : List (List U) → Path → List (List U) → List (List U)
  | _, [], ys => ys
  | xs, (i, o) :: p, ys => xs.set i ((xs.getD i []).set o (.lst (setP (((xs.getD i []).getD o U0).toLst) p ys)))
def splice (row : List U) (o : Nat) : List U → List U
  | [] => row
  | u :: us => splice (row.set o u) (o + 1) us
def setEl (xs : List (List U)) (i o : Nat) (us : List U) : List (List U) := xs.set i (splice (xs.getD i []) o us)
def spliceC (cs : List Cl) (o : Nat) : List Cl → List Cl
  | [] => cs
  | u :: us => spliceC (cs.set o u) (o + 1) us

/-- The data of a cell. -/
def clU (rt : List Root) : Cl → U
  | .int _ n => .int n | .bool b => .bool b | .str s => .str s | .rd _ xs => .lst xs | .nil => .lst [] | .al r p _ => (match rt[r]? with | some (.row _ _ xs) => .lst (getP xs p) | _ => .lst []) | .no => U0
/-- A cell, to be read only. -/
def kCl (rt : List Root) : Cl → Cl
  | .al r p e => (match rt[r]? with | some (.row _ _ xs) => .rd e (getP xs p) | _ => .no)
  | x => x
def ctMatch : CT → Cl → Bool
  | .int k, .int k' _ => decide (k = k') | .bool, .bool _ => true | .str, .str _ => true
  | .slc e, .rd e' _ => decide (e = e') | .slc _, .nil => true | .slc e, .al _ _ e' => decide (e = e') | _, _ => false
def ctsMatch : List CT → List Cl → Bool
  | [], [] => true
  | t :: ts, x :: xs => ctMatch t x && ctsMatch ts xs
  | _, _ => false
def CT.isSlc : CT → Bool | .slc _ => true | _ => false
def flatB (cts : List CT) : Bool := cts.all fun c => !c.isSlc

/-! ### What is known, written out (so that the kernel's terms stay small) -/
section
variable {R : Type}
def fNat : Nat → (Nat → R) → R
  | 0, K => K 0
  | n + 1, K => fNat n fun m => K (m + 1)
def fList {α : Type} (f : α → (α → R) → R) : List α → (List α → R) → R
  | [], K => K []
  | x :: xs, K => f x fun y => fList f xs fun ys => K (y :: ys)
def fStep (x : Nat × Nat) (K : Nat × Nat → R) : R := match x with | (i, o) => fNat o fun o => K (i, o)
def fCl (x : Cl) (K : Cl → R) : R :=
  match x with
  | .int k n => K (.int k n) | .bool b => K (.bool b) | .str s => K (.str s) | .rd e xs => K (.rd e xs) | .nil => K .nil
  | .al r p e => fNat r fun r => fList fStep p fun p => K (.al r p e) | .no => K .no
def fCap (x : Cap) (K : Cap → R) : R :=
  match x with
  | .c x => fCl x fun x => K (.c x) | .bx r o => fNat r fun r => fNat o fun o => K (.bx r o) | .pr e us o => fNat o fun o => K (.pr e us o)
def fBool (b : Bool) (K : Bool → R) : R := match b with | true => K true | false => K false
def fSV (x : SV) (K : SV → R) : R :=
  match x with
  | .c x => fCl x fun x => K (.c x) | .ag xs => fList fCl xs fun xs => K (.ag xs)
  | .bx r o => fNat r fun r => fNat o fun o => K (.bx r o) | .pr e us o => fNat o fun o => K (.pr e us o)
  | .po r p e i o => fNat r fun r => fList fStep p fun p => fNat o fun o => K (.po r p e i o)
  | .fn g caps => fList fCap caps fun caps => K (.fn g caps)
  | .tup vs => fList (fun x K => fBool x.1 fun b => fList fCl x.2 fun ys => K (b, ys)) vs fun vs => K (.tup vs) | .ud => K .ud
def fRoot (x : Root) (K : Root → R) : R :=
  match x with
  | .box t cs => fList fCl cs fun cs => K (.box t cs) | .row e d xs => fBool d fun d => K (.row e d xs) | .gone => K .gone
def fSt (st : St) (K : St → R) : R := fList fSV st.sl fun sl => fList fRoot st.rt fun rt => fNat st.np fun np => K ⟨sl, rt, np⟩
theorem fNat_eq (n : Nat) (K : Nat → R) : fNat n K = K n := by
  induction n generalizing K with
  | zero => rfl
  | succ n ih => exact ih _
theorem fList_eq {α : Type} {f : α → (α → R) → R} (hf : ∀ x K, f x K = K x) (xs : List α) (K : List α → R) : fList f xs K = K xs := by
  induction xs generalizing K with
  | nil => rfl
  | cons x xs ih => unfold fList; rw [hf, ih]
theorem fStep_eq (x : Nat × Nat) (K : Nat × Nat → R) : fStep x K = K x := fNat_eq _ _
theorem fCl_eq (x : Cl) (K : Cl → R) : fCl x K = K x := by
  cases x <;> first | rfl | (unfold fCl; simp only [fNat_eq]; exact fList_eq fStep_eq _ _)
theorem fCap_eq (x : Cap) (K : Cap → R) : fCap x K = K x := by
  cases x <;> simp only [fCap, fCl_eq, fNat_eq]
theorem fBool_eq (x : Bool) (K : Bool → R) : fBool x K = K x := by cases x <;> rfl
theorem fSV_eq (x : SV) (K : SV → R) : fSV x K = K x := by
  cases x <;> simp only [fSV, fCl_eq, fNat_eq, fList_eq fCl_eq, fList_eq fStep_eq, fList_eq fCap_eq]
  exact fList_eq (fun x K => by simp only [fBool_eq]) _ _
theorem fRoot_eq (x : Root) (K : Root → R) : fRoot x K = K x := by
  cases x <;> simp only [fRoot, fList_eq fCl_eq, fBool_eq]
theorem fSt_eq (st : St) (K : St → R) : fSt st K = K st := by
  unfold fSt
  rw [fList_eq fSV_eq, fList_eq fRoot_eq, fNat_eq]
end
def constCl : Value → Cl
  | .bool b => .bool b | .int k n => .int k n | .string s => .str s | .slice none 0 0 => .nil | _ => .no
def constCls : List Value → Option (List Cl)
  | [] => some []
  | v :: vs => match constCl v with
    | .no => none
    | c => (constCls vs).map (c :: ·)
def constSV : Value → SV
  | .agg cs => (match constCls cs.toList with | some xs => .ag xs | none => .no)
  | v => .c (constCl v)
def ev (st : St) : Operand → SV
  | .tmp t => st.sl.getD t .no
  | .const v => constSV v
  | .func f => .fn f []
  | .global _ => .no

def pack (agg : Bool) (cells : List Cl) : SV := if agg then .ag cells else match cells with | [x] => .c x | _ => .no
/-- The cells o .. o+n-1 of a row that is read. -/
def cellsR (cts : List CT) (us : List U) (o n : Nat) : List Cl := (((cts.drop o).take n).zipIdx o).map fun x => Cl.ofU x.1 (us.getD x.2 U0)
/-- The same of an element of a row of one's own. -/
def cellsO (deep : Bool) (r : Nat) (p : Path) (i : Nat) (cts : List CT) (us : List U) (o n : Nat) : List Cl :=
  (((cts.drop o).take n).zipIdx o).map fun x => match x.1 with
    | .slc e => if deep then .al r (p ++ [(i, x.2)]) e else .rd e (us.getD x.2 U0).toLst
    | ct => Cl.ofU ct (us.getD x.2 U0)

section
variable {R : Type}
def loadK (T : Tabs) (rt : List Root) (t : TypeId) (a : SV) (K : SV → Option R) : Option R :=
  if (T.row t).d.known then
    match a with
    | .bx r o => match rt[r]? with
      | some (.box _ cs) => if ((cs.drop o).take (T.size t)).length = T.size t then K (pack (T.agg t) ((cs.drop o).take (T.size t))) else none
      | _ => none
    | .pr e us o => if ((((T.ct e).drop o).take (T.size t)).length = T.size t) then K (pack (T.agg t) (cellsR (T.ct e) us o (T.size t))) else none
    | .po r p e i o => match rt[r]? with
      | some (.row _ dp xs) => if ((((T.ct e).drop o).take (T.size t)).length = T.size t) then K (pack (T.agg t) (cellsO dp r p i (T.ct e) ((getP xs p).getD i []) o (T.size t))) else none
      | _ => none
    | _ => none
  else none

def addrPlus (a : SV) (o : Nat) (K : SV → Option R) : Option R :=
  match a with
  | .bx r j => K (.bx r (j + o)) | .pr e us j => K (.pr e us (j + o)) | .po r p e i j => K (.po r p e i (j + o)) | _ => none
def fieldAddrK (T : Tabs) (t : TypeId) (a : SV) (f : Nat) (K : SV → Option R) : Option R :=
  match (T.row t).d with
  | .st fs => match fs[f]? with
    | some (ft, o) => if T.size ft = 0 ∨ (T.row ft).d.known = false then none else addrPlus a o K
    | none => none
  | _ => none
def fieldK (T : Tabs) (t : TypeId) (a : SV) (f : Nat) (K : SV → Option R) : Option R :=
  match (T.row t).d, a with
  | .st fs, .ag cs => match fs[f]? with
    | some (ft, o) => if (T.row ft).d.known && decide (((cs.drop o).take (T.size ft)).length = T.size ft) then K (pack (T.agg ft) ((cs.drop o).take (T.size ft))) else none
    | none => none
  | _, _ => none
def inRange (n : Int) (len : Nat) : Bool := decide (0 ≤ n ∧ n < (len : Int))
def indexAddrK (T : Tabs) (rt : List Root) (t : TypeId) (x i : SV) (K : SV → Option R) : Option R :=
  match (T.row t).d, i with
  | .one (.slc e), .c (.int _ n) =>
    match x with
    | .c (.rd e' xs) => if e = e' ∧ (T.row e).d.known = true then (bif inRange n xs.length then K (.pr e (xs.getD n.toNat []) 0) else none) else none
    | .c (.al r p e') => (match rt[r]? with
      | some (.row _ _ xs) => if e = e' ∧ (T.row e).d.known = true then (bif inRange n (getP xs p).length then K (.po r p e n.toNat 0) else none) else none
      | _ => none)
    | _ => none
  | .arr len e, .c (.int _ n) =>
    match x with
    | .bx r o => if (T.row e).d.known = true then (bif inRange n len then K (.bx r (o + n.toNat * T.size e)) else none) else none
    | _ => none
  | _, _ => none
def strsOf : List Cl → Option (List ByteArray)
  | [] => some []
  | .str s :: xs => (strsOf xs).map (s :: ·)
  | _ => none
def intsOf (k : IntKind) : List Cl → Option (List Int)
  | [] => some []
  | .int k' n :: xs => if k = k' then (intsOf k xs).map (n :: ·) else none
  | _ => none
def indexK (T : Tabs) (t : TypeId) (x i : SV) (K : SV → Option R) : Option R :=
  match (T.row t).d, x, i with
  | .arr len e, .ag cs, .c (.int _ n) =>
    match (T.row e).d with
    | .one .str => match strsOf cs with
      | some ss => if ss.length = len ∧ T.size e = 1 then (bif inRange n len then K (.c (.str (ss.getD n.toNat ByteArray.empty))) else none) else none
      | none => none
    | .one (.int k) => match intsOf k cs with
      | some ss => if ss.length = len ∧ T.size e = 1 then (bif inRange n len then K (.c (.int k (ss.getD n.toNat 0))) else none) else none
      | none => none
    | _ => none
  | .one .str, .c (.str s), .c (.int _ n) => bif inRange n s.size then K (.c (.int .u8 ((s.data.getD n.toNat 0).toNat))) else none
  | _, _, _ => none
def eqCls : List CT → List Cl → List Cl → Option Bool
  | [], [], [] => some true
  | .int k :: ts, .int k1 a :: xs, .int k2 b :: ys => if k1 = k ∧ k2 = k then (eqCls ts xs ys).map (decide (a = b) && ·) else none
  | .bool :: ts, .bool a :: xs, .bool b :: ys => (eqCls ts xs ys).map ((a == b) && ·)
  | .str :: ts, .str a :: xs, .str b :: ys => (eqCls ts xs ys).map (decide (a = b) && ·)
  | _, _, _ => none
def intBin (b : BinOp) (k : IntKind) (x y : Int) (K : SV → Option R) : Option R :=
  match b with
  | .add => K (.c (.int k (k.wrap (x + y)))) | .sub => K (.c (.int k (k.wrap (x - y)))) | .mul => K (.c (.int k (k.wrap (x * y))))
  | .quo => bif decide (y = 0) then none else K (.c (.int k (k.wrap (x.tdiv y))))
  | .rem => bif decide (y = 0) then none else K (.c (.int k (x.tmod y)))
  | .eql => K (.c (.bool (decide (x = y)))) | .neq => K (.c (.bool (!decide (x = y))))
  | .lss => K (.c (.bool (decide (x < y)))) | .leq => K (.c (.bool (decide (x ≤ y)))) | .gtr => K (.c (.bool (decide (x > y)))) | .geq => K (.c (.bool (decide (x ≥ y))))
  | _ => none
def binK (T : Tabs) (eqT : TypeId → Bool) (b : BinOp) (t : TypeId) (x y : SV) (K : SV → Option R) : Option R :=
  match x, y with
  | .c (.int k a), .c (.int k' c) => if k = k' then intBin b k a c K else none
  | .c (.bool a), .c (.bool c) => (match (T.row t).d, b with
    | .one .bool, .eql => K (.c (.bool (a == c))) | .one .bool, .neq => K (.c (.bool (!(a == c)))) | _, _ => none)
  | .c (.str a), .c (.str c) => (match b with
    | .add => bif decide (a.size + c.size ≤ 9223372036854775807) then K (.c (.str (a ++ c))) else none
    | .eql => K (.c (.bool (decide (a = c)))) | .neq => K (.c (.bool (!decide (a = c)))) | _ => none)
  | .ag xs, .ag ys => if eqT t then (match eqCls (T.ct t) xs ys with
    | some r => (match b with | .eql => K (.c (.bool r)) | .neq => K (.c (.bool (!r))) | _ => none)
    | none => none) else none
  | _, _ => none
def capOf : SV → Option Cap
  | .c .no => none
  | .c x => some (.c x) | .bx r o => some (.bx r o) | .pr e us o => some (.pr e us o) | _ => none
def capsOf (ρ : Operand → SV) : List Operand → Option (List Cap)
  | [] => some []
  | x :: xs => match capOf (ρ x), capsOf ρ xs with | some c, some cs => some (c :: cs) | _, _ => none
def Cap.sv : Cap → SV | .c x => .c x | .bx r o => .bx r o | .pr e us o => .pr e us o
/-- The length of a slice, a string. -/
def lenK (rt : List Root) (x : SV) (K : SV → Option R) : Option R :=
  match x with
  | .c (.rd _ xs) => K (.c (.int .i64 xs.length)) | .c .nil => K (.c (.int .i64 0))
  | .c (.al r p _) => (match rt[r]? with | some (.row _ _ xs) => K (.c (.int .i64 (getP xs p).length)) | _ => none) | _ => none
def sliceK (x : SV) (lo hi : Option SV) (K : SV → Option R) : Option R :=
  match x with
  | .c (.rd e xs) => (match lo.getD (.c (.int .i64 0)), hi.getD (.c (.int .i64 xs.length)) with
    | .c (.int _ l), .c (.int _ h) => bif decide (0 ≤ l ∧ l ≤ h ∧ h ≤ (xs.length : Int)) then K (.c (.rd e ((xs.drop l.toNat).take (h - l).toNat))) else none
    | _, _ => none)
  | .c (.str s) => (match lo.getD (.c (.int .i64 0)), hi.getD (.c (.int .i64 s.size)) with
    | .c (.int _ l), .c (.int _ h) => bif decide (0 ≤ l ∧ l ≤ h ∧ h ≤ (s.size : Int)) then K (.c (.str (s.extract l.toNat h.toNat))) else none
    | _, _ => none)
  | _ => none
def minMaxK (big : Bool) (x y : SV) (K : SV → Option R) : Option R :=
  match x, y with
  | .c (.int k a), .c (.int k' b) => if k = k' then K (.c (.int k (if big then max a b else min a b))) else none
  | _, _ => none
/-- Operations that change nothing but their own temporary. -/
def qK (T : Tabs) (eqT : TypeId → Bool) (rt : List Root) (ρ : Operand → SV) (op : Op) (K : SV → Option R) : Option R :=
  match op with
  | .move x | .assign x => K (ρ x)
  | .pick c a b => match ρ c with | .c (.bool z) => bif z then K (ρ a) else K (ρ b) | _ => none
  | .load t a => loadK T rt t (ρ a) K
  | .fieldAddr t x f => fieldAddrK T t (ρ x) f K
  | .field t x f => fieldK T t (ρ x) f K
  | .indexAddr t x i => indexAddrK T rt t (ρ x) (ρ i) K
  | .index t x i => indexK T t (ρ x) (ρ i) K
  | .binOp b t x y _ => binK T eqT b t (ρ x) (ρ y) K
  | .unOp .not _ x => match ρ x with | .c (.bool b) => K (.c (.bool (!b))) | _ => none
  | .unOp .neg _ x => match ρ x with | .c (.int k n) => K (.c (.int k (k.wrap (0 - n)))) | _ => none
  | .convert s d x => match (T.row s).d, (T.row d).d, ρ x with
    | .one _, .one (.int k), .c (.int _ n) => K (.c (.int k (k.wrap n)))
    | _, _, _ => none
  | .extract x i => match ρ x with
    | .tup vs => match vs[i]? with
      | some (true, cs) => K (.ag cs)
      | some (false, [c]) => K (.c c)
      | _ => none
    | _ => none
  | .makeFunc (.func g) first caps => match first.toList, capsOf ρ caps.toList with
    | [], some cs => K (.fn g cs)
    | _, _ => none
  | .nilCheck x => match ρ x with | .bx r o => K (.bx r o) | .pr e us o => K (.pr e us o) | .po r p e i o => K (.po r p e i o) | _ => none
  | .slice t x lo hi none => match (T.row t).d, ρ x with
    | .one (.slc e), .c (.rd e' xs) => if e = e' ∧ (T.row e).d.known = true then sliceK (.c (.rd e' xs)) (lo.map ρ) (hi.map ρ) K else none
    | .one .str, .c (.str s) => sliceK (.c (.str s)) (lo.map ρ) (hi.map ρ) K
    | _, _ => none
  | .call c => match c.callee, c.args.toList, c.argTypes.toList with
    | .builtin .len, [x], [t] => (match (T.row t).d with
      | .one (.slc _) => lenK rt (ρ x) K
      | .one .str => (match ρ x with | .c (.str s) => K (.c (.int .i64 s.size)) | _ => none)
      | _ => none)
    | .builtin .min, [x, y], _ => minMaxK false (ρ x) (ρ y) K
    | .builtin .max, [x, y], _ => minMaxK true (ρ x) (ρ y) K
    | _, _, _ => none
  | _ => none
end
end Go.Proofs.Ytlblehdenhpijaa.Eng
