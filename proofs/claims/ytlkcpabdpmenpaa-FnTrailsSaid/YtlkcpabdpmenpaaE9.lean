/- The evaluator: parts 1 to 9. Of no program. -/
import Derived.Below
import Derived.OwnWalk
import Derived.Maps.AppendAt
import Derived.Laws.Strings
import Derived.Laws.Small
import Derived.Laws.Concat
/- The evaluator, part 1: data as trees, and how trees lie in memory: read (RepR), owned (RepO). Of no program. -/
namespace Go.Proofs.Ytlkcpabdpmenpaa.Eng
open Go.RowKit
set_option linter.unusedVariables false

/-- What a cell of a type holds. -/
inductive CT where
  | int (k : IntKind) | bool | str | slc (e : TypeId)
  deriving DecidableEq
/-- Data. -/
inductive U where
  | int (n : Int) | bool (b : Bool) | str (s : ByteArray) | lst (xs : List (List U))
def U.toInt : U → Int | .int n => n | _ => 0
def U.toBool : U → Bool | .bool b => b | _ => false
def U.toStr : U → ByteArray | .str s => s | _ => ByteArray.empty
def U.toLst : U → List (List U) | .lst xs => xs | _ => []
abbrev U0 : U := .int 0
@[simp] theorem U.toInt_int (n : Int) : (U.int n).toInt = n := rfl
@[simp] theorem U.toBool_bool (b : Bool) : (U.bool b).toBool = b := rfl
@[simp] theorem U.toStr_str (s : ByteArray) : (U.str s).toStr = s := rfl
@[simp] theorem U.toLst_lst (xs : List (List U)) : (U.lst xs).toLst = xs := rfl
/-- The cells of each type. -/
abbrev Tab := TypeId → List CT

/-- Data that is read: every block that the reading passes is one of okb. -/
inductive RepR (T : Tab) (w : World) (okb : Nat → Prop) : CT → U → Value → Prop
  | int (k : IntKind) (n : Int) : RepR T w okb (.int k) (.int n) (.int k n)
  | bool (b : Bool) : RepR T w okb .bool (.bool b) (.bool b)
  | str (s : ByteArray) : RepR T w okb .str (.str s) (.string s)
  | slc (e : TypeId) (xs : List (List U)) (A : Option Addr) (c : Nat) (V : Nat → Nat → Value) (hl : xs.length ≤ c) (hm : xs.length ≤ 9223372036854775807)
      (hA : 0 < xs.length → ∃ b o, A = some ⟨b, o, none⟩ ∧ okb b ∧ ∀ (i j : Nat) (x : List U), xs[i]? = some x → j < x.length → w.cell? ⟨b, o + (i * (T e).length + j), none⟩ = some (V i j))
      (hs : ∀ (i : Nat) (x : List U), xs[i]? = some x → x.length = (T e).length)
      (h : ∀ (i j : Nat) (x : List U) (u : U) (ct : CT), xs[i]? = some x → x[j]? = some u → (T e)[j]? = some ct → RepR T w okb ct u (V i j)) : RepR T w okb (.slc e) (.lst xs) (.slice A xs.length c)

theorem cell?_of_heap {w w' : World} {b : Nat} (h : w'.heap[b]? = w.heap[b]?) (o : Nat) : w'.cell? ⟨b, o, none⟩ = w.cell? ⟨b, o, none⟩ := by
  unfold World.cell?
  simp only [h]

theorem RepR.imp {T : Tab} {w w' : World} {okb okb' : Nat → Prop} {ct : CT} {u : U} {v : Value} (h : RepR T w okb ct u v) (hb : ∀ b, okb b → okb' b ∧ w'.heap[b]? = w.heap[b]?) : RepR T w' okb' ct u v := by
  induction h with
  | int k n => exact .int k n
  | bool b => exact .bool b
  | str s => exact .str s
  | slc e xs A c V hl hm hA hs h ih =>
    refine .slc e xs A c V hl hm (fun h0 => ?_) hs ih
    obtain ⟨b, o, e1, e2, e3⟩ := hA h0
    exact ⟨b, o, e1, (hb b e2).1, fun i j x hx hj => (cell?_of_heap (hb b e2).2 _).trans (e3 i j x hx hj)⟩

theorem RepR.nil {T : Tab} {w : World} {okb : Nat → Prop} (e : TypeId) (c : Nat) (A : Option Addr) : RepR T w okb (.slc e) (.lst []) (.slice A 0 c) :=
  .slc e [] A c (fun _ _ => undef) (Nat.zero_le _) (by decide) (fun h => absurd h (Nat.lt_irrefl 0)) (fun i x h => by simp at h) (fun i j x u ct h => by simp at h)

/-- A row of one's own that may begin anywhere in its block. -/
def ownsAt (w : World) (e : TypeId) (size : Nat) (v : Value) (n : Nat) (xs : List Value) : Prop :=
  xs.length = n * size ∧ ((v = .slice none 0 0 ∧ n = 0) ∨
    ∃ g q cap cur, v = .slice (some ⟨g, q, none⟩) n cap ∧ w.heap[g]? = some (.cells cur e (0, 0)) ∧ n ≤ cap ∧ cap ≤ maxLen ∧ q + cap * size ≤ cur.size ∧ (cur.toList.drop q).take (n * size) = xs)
/-- Data that is owned: its blocks are of F; 'lab' says to which element's cell a block belongs, so that no two share any. -/
inductive RepO (T : Tab) (w : World) : (Nat → Prop) → CT → U → Value → Prop
  | int (F : Nat → Prop) (k : IntKind) (n : Int) : RepO T w F (.int k) (.int n) (.int k n)
  | bool (F : Nat → Prop) (b : Bool) : RepO T w F .bool (.bool b) (.bool b)
  | str (F : Nat → Prop) (s : ByteArray) : RepO T w F .str (.str s) (.string s)
  | row (F : Nat → Prop) (e : TypeId) (xs : List (List U)) (v : Value) (cs : List Value) (V : Nat → Nat → Value) (lab : Nat → Option (Nat × Nat))
      (ho : ownsAt w e (T e).length v xs.length cs) (hg : ∀ g, v.ownBlock = some g → F g ∧ lab g = none)
      (hV : ∀ (i j : Nat) (x : List U), xs[i]? = some x → j < x.length → cs[i * (T e).length + j]? = some (V i j))
      (hs : ∀ (i : Nat) (x : List U), xs[i]? = some x → x.length = (T e).length)
      (h : ∀ (i j : Nat) (x : List U) (u : U) (ct : CT), xs[i]? = some x → x[j]? = some u → (T e)[j]? = some ct → RepO T w (fun b => F b ∧ lab b = some (i, j)) ct u (V i j)) : RepO T w F (.slc e) (.lst xs) v

section
variable {w w' : World} {base : Nat} {e : TypeId} {size : Nat} {v : Value} {n : Nat} {xs : List Value}
theorem heap_cell {w : World} {g : Nat} {cur : Array Value} {e : TypeId} {z : Nat × Nat} (h : w.heap[g]? = some (.cells cur e z)) (o : Nat) : w.cell? ⟨g, o, none⟩ = cur[o]? := by
  unfold World.cell?
  simp only [h]
  rfl
theorem ownsAt.of (h : w.ownsRow base e size v n xs) : ownsAt w e size v n xs := by
  refine ⟨h.1, ?_⟩
  rcases h.2 with hn | ⟨g, cap, cur, rfl, hb, hg, h1, h2, h3, h4⟩
  · exact .inl hn
  · exact .inr ⟨g, 0, cap, cur, rfl, hg, h1, h2, by rw [h3]; omega, by rw [List.drop_zero]; exact h4⟩
theorem ownsAt_heap (h : ownsAt w e size v n xs) (hh : ∀ g, v.ownBlock = some g → w'.heap[g]? = w.heap[g]?) : ownsAt w' e size v n xs := by
  refine ⟨h.1, ?_⟩
  rcases h.2 with hn | ⟨g, q, cap, cur, rfl, hg, rest⟩
  · exact .inl hn
  · exact .inr ⟨g, q, cap, cur, rfl, (hh g rfl).trans hg, rest⟩
theorem ownsAt_slice (h : ownsAt w e size v n xs) : ∃ A c, v = .slice A n c ∧ n ≤ c ∧ n ≤ 9223372036854775807 := by
  rcases h.2 with ⟨rfl, rfl⟩ | ⟨g, q, cap, cur, rfl, hg, h1, h2, rest⟩
  · exact ⟨none, 0, rfl, Nat.le_refl _, by decide⟩
  · exact ⟨_, _, rfl, h1, Nat.le_trans h1 (by simpa [maxLen] using h2)⟩
theorem ownsAt_cell {g q c m : Nat} (h : ownsAt w e size (.slice (some ⟨g, q, none⟩) m c) n xs) {j : Nat} {u : Value} (hu : xs[j]? = some u) : w.cell? ⟨g, q + j, none⟩ = some u := by
  rcases h.2 with ⟨h0, _⟩ | ⟨g', q', cap, cur, hv, hg, h1, h2, h3, h4⟩
  · cases h0
  · cases hv
    rw [← h4, List.getElem?_take] at hu
    split at hu
    · rw [List.getElem?_drop] at hu
      rw [heap_cell hg, ← Array.getElem?_toList]; exact hu
    · cases hu
theorem ownsAt_some (h : ownsAt w e size v n xs) (hn : 0 < n) : ∃ g q c, v = .slice (some ⟨g, q, none⟩) n c := by
  rcases h.2 with ⟨rfl, h0⟩ | ⟨g, q, cap, cur, rfl, _⟩
  · omega
  · exact ⟨g, q, cap, rfl⟩
theorem ownsAt_lt (h : ownsAt w e size v n xs) : ∀ k, v.ownBlock = some k → k < w.heap.size := by
  intro k hk
  rcases h.2 with ⟨rfl, h0⟩ | ⟨g, q, cap, cur, rfl, hg, _⟩
  · cases hk
  · cases hk
    exact (Array.getElem?_eq_some_iff.1 hg).1
end
theorem RepO.imp {T : Tab} {w : World} {F : Nat → Prop} {ct : CT} {u : U} {v : Value} (h : RepO T w F ct u v) : ∀ {w' : World} {F' : Nat → Prop}, (∀ b, F b → F' b ∧ w'.heap[b]? = w.heap[b]?) → RepO T w' F' ct u v := by
  induction h with
  | int F k n => exact fun _ => .int _ k n
  | bool F b => exact fun _ => .bool _ b
  | str F s => exact fun _ => .str _ s
  | row F e xs v cs V lab ho hg hV hs h ih =>
    intro w' F' hF
    exact .row F' e xs v cs V lab (ownsAt_heap ho fun g e => (hF g (hg g e).1).2) (fun g e => ⟨(hF g (hg g e).1).1, (hg g e).2⟩) hV hs (fun i j x u ct hx hu hct => ih i j x u ct hx hu hct (fun b hb => ⟨⟨(hF b hb.1).1, hb.2⟩, (hF b hb.1).2⟩))
theorem RepO.mono {T : Tab} {w : World} {F F' : Nat → Prop} {ct : CT} {u : U} {v : Value} (h : RepO T w F ct u v) (hF : ∀ b, F b → F' b) : RepO T w F' ct u v := h.imp (fun b hb => ⟨hF b hb, rfl⟩)
theorem RepO.frame {T : Tab} {w w' : World} {F : Nat → Prop} {ct : CT} {u : U} {v : Value} (h : RepO T w F ct u v) (hF : ∀ b, F b → w'.heap[b]? = w.heap[b]?) : RepO T w' F ct u v := h.imp (fun b hb => ⟨hb, hF b hb⟩)

theorem RepO.nil {T : Tab} {w : World} {F : Nat → Prop} (e : TypeId) : RepO T w F (.slc e) (.lst []) (.slice none 0 0) :=
  .row F e [] _ [] (fun _ _ => undef) (fun _ => none) (.of (World.ownsRow_nil w 0 e _)) (fun g h => by simp [Value.ownBlock] at h) (fun i j x h => by simp at h) (fun i x h => by simp at h) (fun i j x u ct h => by simp at h)

/-- What is owned is read. -/
theorem RepO.toR {T : Tab} {w : World} {F : Nat → Prop} {ct : CT} {u : U} {v : Value} (h : RepO T w F ct u v) : ∀ {okb : Nat → Prop}, (∀ b, F b → okb b) → RepR T w okb ct u v := by
  induction h with
  | int F k n => exact fun _ => .int k n
  | bool F b => exact fun _ => .bool b
  | str F s => exact fun _ => .str s
  | row F e xs v cs V lab ho hg hV hs h ih =>
    intro okb hF
    obtain ⟨A, c, rfl, hc, hm⟩ := ownsAt_slice ho
    refine .slc e xs A c V hc hm (fun h0 => ?_) hs (fun i j x u ct hx hu hct => ih i j x u ct hx hu hct (fun b hb => hF b hb.1))
    obtain ⟨g, q, c', hv⟩ := ownsAt_some ho h0
    obtain ⟨rfl, -, rfl⟩ := Value.slice.inj hv
    exact ⟨g, q, rfl, hF g (hg g rfl).1, fun i j x hx hj => ownsAt_cell ho (hV i j x hx hj)⟩

/-- A row that is owned, its elements are read. -/
structure RepS (T : Tab) (w : World) (F okb : Nat → Prop) (e : TypeId) (xs : List (List U)) (v : Value) : Prop where
  ex : ∃ (cs : List Value) (V : Nat → Nat → Value), ownsAt w e (T e).length v xs.length cs ∧ (∀ g, v.ownBlock = some g → F g) ∧
    (∀ (i j : Nat) (x : List U), xs[i]? = some x → j < x.length → cs[i * (T e).length + j]? = some (V i j)) ∧
    (∀ (i : Nat) (x : List U), xs[i]? = some x → x.length = (T e).length) ∧
    (∀ (i j : Nat) (x : List U) (u : U) (ct : CT), xs[i]? = some x → x[j]? = some u → (T e)[j]? = some ct → RepR T w okb ct u (V i j))
theorem RepS.imp {T : Tab} {w w' : World} {F F' okb okb' : Nat → Prop} {e : TypeId} {xs : List (List U)} {v : Value} (h : RepS T w F okb e xs v) (hF : ∀ b, F b → F' b ∧ w'.heap[b]? = w.heap[b]?) (hk : ∀ b, okb b → okb' b ∧ w'.heap[b]? = w.heap[b]?) : RepS T w' F' okb' e xs v := by
  obtain ⟨cs, V, ho, hg, hV, hs, hr⟩ := h.ex
  exact ⟨cs, V, ownsAt_heap ho fun g e => (hF g (hg g e)).2, fun g e => (hF g (hg g e)).1, hV, hs, fun i j x u ct hx hu hct => (hr i j x u ct hx hu hct).imp hk⟩
theorem RepS.toR {T : Tab} {w : World} {F okb : Nat → Prop} {e : TypeId} {xs : List (List U)} {v : Value} (h : RepS T w F okb e xs v) {okb' : Nat → Prop} (hF : ∀ b, F b → okb' b) (hk : ∀ b, okb b → okb' b) : RepR T w okb' (.slc e) (.lst xs) v := by
  obtain ⟨cs, V, ho, hg, hV, hs, hr⟩ := h.ex
  obtain ⟨A, c, rfl, hc, hm⟩ := ownsAt_slice ho
  refine .slc e xs A c V hc hm (fun h0 => ?_) hs (fun i j x u ct hx hu hct => (hr i j x u ct hx hu hct).imp fun b hb => ⟨hk b hb, rfl⟩)
  obtain ⟨g, q, c', hv⟩ := ownsAt_some ho h0
  obtain ⟨rfl, -, rfl⟩ := Value.slice.inj hv
  exact ⟨g, q, rfl, hF g (hg g rfl), fun i j x hx hj => ownsAt_cell ho (hV i j x hx hj)⟩
theorem RepO.toS {T : Tab} {w : World} {F okb : Nat → Prop} {e : TypeId} {xs : List (List U)} {v : Value} (h : RepO T w F (.slc e) (.lst xs) v) (hk : ∀ b, F b → okb b) : RepS T w F okb e xs v := by
  cases h with
  | row _ _ _ _ cs V lab ho hg hV hs h => exact ⟨cs, V, ho, fun g e => (hg g e).1, hV, hs, fun i j x u ct hx hu hct => (h i j x u ct hx hu hct).toR fun b hb => hk b hb.1⟩

/-- The inversions. -/
theorem RepR.int_inv {T : Tab} {w : World} {okb : Nat → Prop} {k : IntKind} {u : U} {v : Value} (h : RepR T w okb (.int k) u v) : u = .int u.toInt ∧ v = .int k u.toInt := by
  cases h
  exact ⟨rfl, rfl⟩
theorem RepR.bool_inv {T : Tab} {w : World} {okb : Nat → Prop} {u : U} {v : Value} (h : RepR T w okb .bool u v) : u = .bool u.toBool ∧ v = .bool u.toBool := by
  cases h
  exact ⟨rfl, rfl⟩
theorem RepR.str_inv {T : Tab} {w : World} {okb : Nat → Prop} {u : U} {v : Value} (h : RepR T w okb .str u v) : u = .str u.toStr ∧ v = .string u.toStr := by
  cases h
  exact ⟨rfl, rfl⟩
theorem RepR.slc_inv {T : Tab} {w : World} {okb : Nat → Prop} {e : TypeId} {u : U} {v : Value} (h : RepR T w okb (.slc e) u v) : u = .lst u.toLst := by
  cases h
  rfl
theorem RepR.slc_len {T : Tab} {w : World} {okb : Nat → Prop} {e : TypeId} {xs : List (List U)} {v : Value} (h : RepR T w okb (.slc e) (.lst xs) v) : ∃ A c, v = .slice A xs.length c ∧ xs.length ≤ c ∧ xs.length ≤ 9223372036854775807 := by
  cases h with
  | slc e xs A c V hl hm => exact ⟨A, c, rfl, hl, hm⟩
theorem RepO.int_inv {T : Tab} {w : World} {F : Nat → Prop} {k : IntKind} {u : U} {v : Value} (h : RepO T w F (.int k) u v) : u = .int u.toInt ∧ v = .int k u.toInt := by
  cases h
  exact ⟨rfl, rfl⟩
theorem RepO.bool_inv {T : Tab} {w : World} {F : Nat → Prop} {u : U} {v : Value} (h : RepO T w F .bool u v) : u = .bool u.toBool ∧ v = .bool u.toBool := by
  cases h
  exact ⟨rfl, rfl⟩
theorem RepO.str_inv {T : Tab} {w : World} {F : Nat → Prop} {u : U} {v : Value} (h : RepO T w F .str u v) : u = .str u.toStr ∧ v = .string u.toStr := by
  cases h
  exact ⟨rfl, rfl⟩
theorem RepO.slc_inv {T : Tab} {w : World} {F : Nat → Prop} {e : TypeId} {u : U} {v : Value} (h : RepO T w F (.slc e) u v) : u = .lst u.toLst := by
  cases h
  rfl
end Go.Proofs.Ytlkcpabdpmenpaa.Eng
/- The evaluator, part 2: states and the evaluation of operations. Of no program. -/
namespace Go.Proofs.Ytlkcpabdpmenpaa.Eng
open Go.RowKit
set_option linter.unusedVariables false

/-- The types, as the evaluator sees them. -/
inductive TD where
  | one (c : CT) | st (fs : List (TypeId × Nat)) | arr (n : Nat) (e : TypeId) | other
structure TRow where
  d : TD
  cts : List CT
  bytes : Nat
abbrev Tabs := List TRow
def Tabs.row (T : Tabs) (t : TypeId) : TRow := T.getD t ⟨.other, [], 0⟩
def Tabs.ct (T : Tabs) : Tab := fun t => (T.row t).cts
def TD.isAgg : TD → Bool | .st _ | .arr .. => true | _ => false
def TD.elem : TD → Option TypeId | .one (.slc e) => some e | _ => none
def TD.known : TD → Bool | .other => false | _ => true
def Tabs.agg (T : Tabs) (t : TypeId) : Bool := (T.row t).d.isAgg
def Tabs.elem (T : Tabs) (t : TypeId) : Option TypeId := (T.row t).d.elem
def Tabs.size (T : Tabs) (t : TypeId) : Nat := (T.row t).cts.length

abbrev Path := List (Nat × Nat)
/-- What is known of one cell. -/
inductive Cl where
  | int (k : IntKind) (n : Int) | bool (b : Bool) | str (s : ByteArray)
  | rd (e : TypeId) (xs : List (List U)) | nil | al (r : Nat) (p : Path) (e : TypeId) | no
/-- What a function value has captured. -/
inductive Cap where
  | c (x : Cl) | bx (r o : Nat) | pr (e : TypeId) (us : List U) (o : Nat)
/-- What is known of one temporary. -/
inductive SV where
  | c (x : Cl) | ag (xs : List Cl) | bx (r o : Nat) | pr (e : TypeId) (us : List U) (o : Nat) | po (r : Nat) (p : Path) (e : TypeId) (i o : Nat)
  | fn (g : FuncId) (caps : List Cap) | tup (vs : List (Bool × List Cl)) | ud
abbrev SV.no : SV := .c .no
/-- Memory of one's own. -/
inductive Root where
  | box (t : TypeId) (cs : List Cl) | row (e : TypeId) (deep : Bool) (xs : List (List U)) | gone
/-- 'np': so many roots stand for what lies behind arguments. -/
structure St where
  sl : List SV
  rt : List Root
  np : Nat
structure Ret where
  res : List (List U)
  ms : List (List (List U))
inductive PM where | k | m deriving DecidableEq
inductive RM where | own | shal | ro | ptr (e : TypeId) deriving DecidableEq
structure Sig where
  ps : List PM
  rs : List RM

def St.put (st : St) (d : Option Tmp) (v : SV) : St := match d with | some d => { st with sl := st.sl.set d v } | none => st
def St.add (st : St) (x : Root) : St := { st with rt := st.rt ++ [x] }
def St.setR (st : St) (r : Nat) (x : Root) : St := { st with rt := st.rt.set r x }

def Cl.ofU : CT → U → Cl
  | .int k, u => .int k u.toInt | .bool, u => .bool u.toBool | .str, u => .str u.toStr | .slc e, u => .rd e u.toLst
def zeroCl : CT → Cl | .int k => .int k 0 | .bool => .bool false | .str => .str ByteArray.empty | .slc _ => .nil
def zeroU : CT → U | .int _ => .int 0 | .bool => .bool false | .str => .str ByteArray.empty | .slc _ => .lst []

def rowsOf (rt : List Root) (r : Nat) : List (List U) := match rt[r]? with | some (.row _ _ xs) => xs | _ => []
def getP : List (List U) → Path → List (List U)
  | xs, [] => xs
  | xs, (i, o) :: p => getP (((xs.getD i []).getD o U0).toLst) p
def setP : List (List U) → Path → List (List U) → List (List U)
  | _, [], ys => ys
  | xs, (i, o) :: p, ys => xs.set i ((xs.getD i []).set o (.lst (setP (((xs.getD i []).getD o U0).toLst) p ys)))
def splice (row : List U) (o : Nat) : List U → List U
  | [] => row
  | u :: us => splice (row.set o u) (o + 1) us
def setEl (xs : List (List U)) (i o : Nat) (us : List U) : List (List U) := xs.set i (splice (xs.getD i []) o us)
def spliceC (cs : List Cl) (o : Nat) : List Cl → List Cl
  | [] => cs
  | u :: us => spliceC (cs.set o u) (o + 1) us

/-- The data of a cell. -/
def clU (rt : List Root) : Cl → U
  | .int _ n => .int n | .bool b => .bool b | .str s => .str s | .rd _ xs => .lst xs | .nil => .lst [] | .al r p _ => (match rt[r]? with | some (.row _ _ xs) => .lst (getP xs p) | _ => .lst []) | .no => U0
/-- A cell, to be read only. -/
def kCl (rt : List Root) : Cl → Cl
  | .al r p e => (match rt[r]? with | some (.row _ _ xs) => .rd e (getP xs p) | _ => .no)
  | x => x
def ctMatch : CT → Cl → Bool
  | .int k, .int k' _ => decide (k = k') | .bool, .bool _ => true | .str, .str _ => true
  | .slc e, .rd e' _ => decide (e = e') | .slc _, .nil => true | .slc e, .al _ _ e' => decide (e = e') | _, _ => false
def ctsMatch : List CT → List Cl → Bool
  | [], [] => true
  | t :: ts, x :: xs => ctMatch t x && ctsMatch ts xs
  | _, _ => false
def CT.isSlc : CT → Bool | .slc _ => true | _ => false
def flatB (cts : List CT) : Bool := cts.all fun c => !c.isSlc

/-! ### What is known, written out (so that the kernel's terms stay small) -/
section
variable {R : Type}
def fNat : Nat → (Nat → R) → R
  | 0, K => K 0
  | n + 1, K => fNat n fun m => K (m + 1)
def fList {α : Type} (f : α → (α → R) → R) : List α → (List α → R) → R
  | [], K => K []
  | x :: xs, K => f x fun y => fList f xs fun ys => K (y :: ys)
def fStep (x : Nat × Nat) (K : Nat × Nat → R) : R := match x with | (i, o) => fNat o fun o => K (i, o)
def fCl (x : Cl) (K : Cl → R) : R :=
  match x with
  | .int k n => K (.int k n) | .bool b => K (.bool b) | .str s => K (.str s) | .rd e xs => K (.rd e xs) | .nil => K .nil
  | .al r p e => fNat r fun r => fList fStep p fun p => K (.al r p e) | .no => K .no
def fCap (x : Cap) (K : Cap → R) : R :=
  match x with
  | .c x => fCl x fun x => K (.c x) | .bx r o => fNat r fun r => fNat o fun o => K (.bx r o) | .pr e us o => fNat o fun o => K (.pr e us o)
def fBool (b : Bool) (K : Bool → R) : R := match b with | true => K true | false => K false
def fSV (x : SV) (K : SV → R) : R :=
  match x with
  | .c x => fCl x fun x => K (.c x) | .ag xs => fList fCl xs fun xs => K (.ag xs)
  | .bx r o => fNat r fun r => K (.bx r o) | .pr e us o => fNat o fun o => K (.pr e us o)
  | .po r p e i o => fNat r fun r => fList fStep p fun p => fNat o fun o => K (.po r p e i o)
  | .fn g caps => fList fCap caps fun caps => K (.fn g caps)
  | .tup vs => fList (fun x K => fBool x.1 fun b => fList fCl x.2 fun ys => K (b, ys)) vs fun vs => K (.tup vs) | .ud => K .ud
def fRoot (x : Root) (K : Root → R) : R :=
  match x with
  | .box t cs => fList fCl cs fun cs => K (.box t cs) | .row e d xs => fBool d fun d => K (.row e d xs) | .gone => K .gone
def fSt (st : St) (K : St → R) : R := fList fSV st.sl fun sl => fList fRoot st.rt fun rt => fNat st.np fun np => K ⟨sl, rt, np⟩
theorem fNat_eq (n : Nat) (K : Nat → R) : fNat n K = K n := by
  induction n generalizing K with
  | zero => rfl
  | succ n ih => exact ih _
theorem fList_eq {α : Type} {f : α → (α → R) → R} (hf : ∀ x K, f x K = K x) (xs : List α) (K : List α → R) : fList f xs K = K xs := by
  induction xs generalizing K with
  | nil => rfl
  | cons x xs ih => unfold fList; rw [hf, ih]
theorem fStep_eq (x : Nat × Nat) (K : Nat × Nat → R) : fStep x K = K x := fNat_eq _ _
theorem fCl_eq (x : Cl) (K : Cl → R) : fCl x K = K x := by
  cases x <;> first | rfl | (unfold fCl; simp only [fNat_eq]; exact fList_eq fStep_eq _ _)
theorem fCap_eq (x : Cap) (K : Cap → R) : fCap x K = K x := by
  cases x <;> simp only [fCap, fCl_eq, fNat_eq]
theorem fBool_eq (x : Bool) (K : Bool → R) : fBool x K = K x := by cases x <;> rfl
theorem fSV_eq (x : SV) (K : SV → R) : fSV x K = K x := by
  cases x <;> simp only [fSV, fCl_eq, fNat_eq, fList_eq fCl_eq, fList_eq fStep_eq, fList_eq fCap_eq]
  exact fList_eq (fun x K => by simp only [fBool_eq]) _ _
theorem fRoot_eq (x : Root) (K : Root → R) : fRoot x K = K x := by
  cases x <;> simp only [fRoot, fList_eq fCl_eq, fBool_eq]
theorem fSt_eq (st : St) (K : St → R) : fSt st K = K st := by
  unfold fSt
  rw [fList_eq fSV_eq, fList_eq fRoot_eq, fNat_eq]
end
def constCl : Value → Cl
  | .bool b => .bool b | .int k n => .int k n | .string s => .str s | .slice none 0 0 => .nil | _ => .no
def constCls : List Value → Option (List Cl)
  | [] => some []
  | v :: vs => match constCl v with
    | .no => none
    | c => (constCls vs).map (c :: ·)
def constSV : Value → SV
  | .agg cs => (match constCls cs.toList with | some xs => .ag xs | none => .no)
  | v => .c (constCl v)
def ev (st : St) : Operand → SV
  | .tmp t => st.sl.getD t .no
  | .const v => constSV v
  | .func f => .fn f []
  | .global _ => .no

def pack (agg : Bool) (cells : List Cl) : SV := if agg then .ag cells else match cells with | [x] => .c x | _ => .no
/-- The cells o .. o+n-1 of a row that is read. -/
def cellsR (cts : List CT) (us : List U) (o n : Nat) : List Cl := (((cts.drop o).take n).zipIdx o).map fun x => Cl.ofU x.1 (us.getD x.2 U0)
/-- The same of an element of a row of one's own. -/
def cellsO (deep : Bool) (r : Nat) (p : Path) (i : Nat) (cts : List CT) (us : List U) (o n : Nat) : List Cl :=
  (((cts.drop o).take n).zipIdx o).map fun x => match x.1 with
    | .slc e => if deep then .al r (p ++ [(i, x.2)]) e else .rd e (us.getD x.2 U0).toLst
    | ct => Cl.ofU ct (us.getD x.2 U0)

section
variable {R : Type}
def boolsOf : List Cl → Option (List Bool)
  | [] => some []
  | .bool b :: xs => (boolsOf xs).map (b :: ·)
  | _ => none
/-- The cells of an array of bool, one of which is read. -/
def boolsAt (T : Tabs) (t' t : TypeId) (cs : List Cl) : Option (List Bool) :=
  match (T.row t').d, T.ct t, T.agg t with
  | .arr _ _, [.bool], false => boolsOf cs
  | _, _, _ => none
def intsOf (k : IntKind) : List Cl → Option (List Int)
  | [] => some []
  | .int k' n :: xs => if k = k' then (intsOf k xs).map (n :: ·) else none
  | _ => none
/-- The cells of an array of a kind of number, one of which is read. -/
def intsAt (T : Tabs) (t' t : TypeId) (cs : List Cl) : Option (IntKind × List Int) :=
  match (T.row t').d, T.ct t, T.agg t with
  | .arr _ _, [.int k], false => (intsOf k cs).map (k, ·)
  | _, _, _ => none
def loadK (T : Tabs) (rt : List Root) (t : TypeId) (a : SV) (K : SV → Option R) : Option R :=
  if (T.row t).d.known then
    match a with
    | .bx r o => match rt[r]? with
      | some (.box t' cs) => match boolsAt T t' t cs with
        | some bs => bif decide (o < bs.length) then K (.c (.bool (bs.getD o false))) else none
        | none => match intsAt T t' t cs with
          | some (k, ns) => bif decide (o < ns.length) then K (.c (.int k (ns.getD o 0))) else none
          | none => if ((cs.drop o).take (T.size t)).length = T.size t then K (pack (T.agg t) ((cs.drop o).take (T.size t))) else none
      | _ => none
    | .pr e us o => if ((((T.ct e).drop o).take (T.size t)).length = T.size t) then K (pack (T.agg t) (cellsR (T.ct e) us o (T.size t))) else none
    | .po r p e i o => match rt[r]? with
      | some (.row _ dp xs) => if ((((T.ct e).drop o).take (T.size t)).length = T.size t) then K (pack (T.agg t) (cellsO dp r p i (T.ct e) ((getP xs p).getD i []) o (T.size t))) else none
      | _ => none
    | _ => none
  else none

def addrPlus (a : SV) (o : Nat) (K : SV → Option R) : Option R :=
  match a with
  | .bx r j => K (.bx r (j + o)) | .pr e us j => K (.pr e us (j + o)) | .po r p e i j => K (.po r p e i (j + o)) | _ => none
def fieldAddrK (T : Tabs) (t : TypeId) (a : SV) (f : Nat) (K : SV → Option R) : Option R :=
  match (T.row t).d with
  | .st fs => match fs[f]? with
    | some (ft, o) => if T.size ft = 0 ∨ (T.row ft).d.known = false then none else addrPlus a o K
    | none => none
  | _ => none
def fieldK (T : Tabs) (t : TypeId) (a : SV) (f : Nat) (K : SV → Option R) : Option R :=
  match (T.row t).d, a with
  | .st fs, .ag cs => match fs[f]? with
    | some (ft, o) => if (T.row ft).d.known && decide (((cs.drop o).take (T.size ft)).length = T.size ft) then K (pack (T.agg ft) ((cs.drop o).take (T.size ft))) else none
    | none => none
  | _, _ => none
def inRange (n : Int) (len : Nat) : Bool := decide (0 ≤ n ∧ n < (len : Int))
def indexAddrK (T : Tabs) (rt : List Root) (t : TypeId) (x i : SV) (K : SV → Option R) : Option R :=
  match (T.row t).d, i with
  | .one (.slc e), .c (.int _ n) =>
    match x with
    | .c (.rd e' xs) => if e = e' ∧ (T.row e).d.known = true then (bif inRange n xs.length then K (.pr e (xs.getD n.toNat []) 0) else none) else none
    | .c (.al r p e') => (match rt[r]? with
      | some (.row _ _ xs) => if e = e' ∧ (T.row e).d.known = true then (bif inRange n (getP xs p).length then K (.po r p e n.toNat 0) else none) else none
      | _ => none)
    | _ => none
  | .arr len e, .c (.int _ n) =>
    match x with
    | .bx r o => if (T.row e).d.known = true then (bif inRange n len then (fNat (T.size e) fun k => match k, o with | 1, 0 => K (.bx r n.toNat) | k, o => K (.bx r (o + n.toNat * k))) else none) else none
    | _ => none
  | _, _ => none
def strsOf : List Cl → Option (List ByteArray)
  | [] => some []
  | .str s :: xs => (strsOf xs).map (s :: ·)
  | _ => none
def indexK (T : Tabs) (t : TypeId) (x i : SV) (K : SV → Option R) : Option R :=
  match (T.row t).d, x, i with
  | .arr len e, .ag cs, .c (.int _ n) =>
    match (T.row e).d with
    | .one .str => match strsOf cs with
      | some ss => if ss.length = len ∧ T.size e = 1 then (bif inRange n len then K (.c (.str (ss.getD n.toNat ByteArray.empty))) else none) else none
      | none => none
    | .one (.int k) => match intsOf k cs with
      | some ss => if ss.length = len ∧ T.size e = 1 then (bif inRange n len then K (.c (.int k (ss.getD n.toNat 0))) else none) else none
      | none => none
    | .one .bool => match boolsOf cs with
      | some ss => if ss.length = len ∧ T.size e = 1 then (bif inRange n len then K (.c (.bool (ss.getD n.toNat false))) else none) else none
      | none => none
    | _ => none
  | .one .str, .c (.str s), .c (.int _ n) => bif inRange n s.size then K (.c (.int .u8 ((s.data.getD n.toNat 0).toNat))) else none
  | _, _, _ => none
def eqCls : List CT → List Cl → List Cl → Option Bool
  | [], [], [] => some true
  | .int k :: ts, .int k1 a :: xs, .int k2 b :: ys => if k1 = k ∧ k2 = k then (eqCls ts xs ys).map (decide (a = b) && ·) else none
  | .bool :: ts, .bool a :: xs, .bool b :: ys => (eqCls ts xs ys).map ((a == b) && ·)
  | .str :: ts, .str a :: xs, .str b :: ys => (eqCls ts xs ys).map (decide (a = b) && ·)
  | _, _, _ => none
/-- x & y, x ^ y; x >> y. -/
def andI (k : IntKind) (x y : Int) : Int := k.wrap ((BitVec.ofInt k.bits x &&& BitVec.ofInt k.bits y).toNat : Nat)
def xorI (k : IntKind) (x y : Int) : Int := k.wrap ((BitVec.ofInt k.bits x ^^^ BitVec.ofInt k.bits y).toNat : Nat)
def shrI (k : IntKind) (x y : Int) : Int := x.fdiv (2 ^ (min y.toNat k.bits))
def intBin (b : BinOp) (k : IntKind) (x y : Int) (K : SV → Option R) : Option R :=
  match b with
  | .and => K (.c (.int k (andI k x y))) | .xor => K (.c (.int k (xorI k x y)))
  | .add => K (.c (.int k (k.wrap (x + y)))) | .sub => K (.c (.int k (k.wrap (x - y)))) | .mul => K (.c (.int k (k.wrap (x * y))))
  | .quo => bif decide (y = 0) then none else K (.c (.int k (k.wrap (x.tdiv y))))
  | .rem => bif decide (y = 0) then none else K (.c (.int k (x.tmod y)))
  | .eql => K (.c (.bool (decide (x = y)))) | .neq => K (.c (.bool (!decide (x = y))))
  | .lss => K (.c (.bool (decide (x < y)))) | .leq => K (.c (.bool (decide (x ≤ y)))) | .gtr => K (.c (.bool (decide (x > y)))) | .geq => K (.c (.bool (decide (x ≥ y))))
  | _ => none
def binK (T : Tabs) (eqT : TypeId → Bool) (b : BinOp) (t : TypeId) (x y : SV) (K : SV → Option R) : Option R :=
  match x, y with
  | .c (.int k a), .c (.int k' c) => if b = .shr then (bif decide (c < 0) then none else K (.c (.int k (shrI k a c)))) else if k = k' then intBin b k a c K else none
  | .c (.bool a), .c (.bool c) => (match (T.row t).d, b with
    | .one .bool, .eql => K (.c (.bool (a == c))) | .one .bool, .neq => K (.c (.bool (!(a == c)))) | _, _ => none)
  | .c (.str a), .c (.str c) => (match b with
    | .add => bif decide (a.size + c.size ≤ 9223372036854775807) then K (.c (.str (a ++ c))) else none
    | .eql => K (.c (.bool (decide (a = c)))) | .neq => K (.c (.bool (!decide (a = c)))) | _ => none)
  | .ag xs, .ag ys => if eqT t then (match eqCls (T.ct t) xs ys with
    | some r => (match b with | .eql => K (.c (.bool r)) | .neq => K (.c (.bool (!r))) | _ => none)
    | none => none) else none
  | _, _ => none
def capOf : SV → Option Cap
  | .c .no => none
  | .c x => some (.c x) | .bx r o => some (.bx r o) | .pr e us o => some (.pr e us o) | _ => none
def capsOf (ρ : Operand → SV) : List Operand → Option (List Cap)
  | [] => some []
  | x :: xs => match capOf (ρ x), capsOf ρ xs with | some c, some cs => some (c :: cs) | _, _ => none
def Cap.sv : Cap → SV | .c x => .c x | .bx r o => .bx r o | .pr e us o => .pr e us o
/-- The length of a slice, a string. -/
def lenK (rt : List Root) (x : SV) (K : SV → Option R) : Option R :=
  match x with
  | .c (.rd _ xs) => K (.c (.int .i64 xs.length)) | .c .nil => K (.c (.int .i64 0))
  | .c (.al r p _) => (match rt[r]? with | some (.row _ _ xs) => K (.c (.int .i64 (getP xs p).length)) | _ => none) | _ => none
def sliceK (x : SV) (lo hi : Option SV) (K : SV → Option R) : Option R :=
  match x with
  | .c (.rd e xs) => (match lo.getD (.c (.int .i64 0)), hi.getD (.c (.int .i64 xs.length)) with
    | .c (.int _ l), .c (.int _ h) => bif decide (0 ≤ l ∧ l ≤ h ∧ h ≤ (xs.length : Int)) then K (.c (.rd e ((xs.drop l.toNat).take (h - l).toNat))) else none
    | _, _ => none)
  | .c (.str s) => (match lo.getD (.c (.int .i64 0)), hi.getD (.c (.int .i64 s.size)) with
    | .c (.int _ l), .c (.int _ h) => bif decide (0 ≤ l ∧ l ≤ h ∧ h ≤ (s.size : Int)) then K (.c (.str (s.extract l.toNat h.toNat))) else none
    | _, _ => none)
  | _ => none
def minMaxK (big : Bool) (x y : SV) (K : SV → Option R) : Option R :=
  match x, y with
  | .c (.int k a), .c (.int k' b) => if k = k' then K (.c (.int k (if big then max a b else min a b))) else none
  | _, _ => none
/-- Operations that change nothing but their own temporary. -/
def qK (T : Tabs) (eqT : TypeId → Bool) (rt : List Root) (ρ : Operand → SV) (op : Op) (K : SV → Option R) : Option R :=
  match op with
  | .move x | .assign x => K (ρ x)
  | .pick c a b => match ρ c with | .c (.bool z) => bif z then K (ρ a) else K (ρ b) | _ => none
  | .load t a => loadK T rt t (ρ a) K
  | .fieldAddr t x f => fieldAddrK T t (ρ x) f K
  | .field t x f => fieldK T t (ρ x) f K
  | .indexAddr t x i => indexAddrK T rt t (ρ x) (ρ i) K
  | .index t x i => indexK T t (ρ x) (ρ i) K
  | .binOp b t x y _ => binK T eqT b t (ρ x) (ρ y) K
  | .unOp .not _ x => match ρ x with | .c (.bool b) => K (.c (.bool (!b))) | _ => none
  | .unOp .neg _ x => match ρ x with | .c (.int k n) => K (.c (.int k (k.wrap (0 - n)))) | _ => none
  | .convert s d x => match (T.row s).d, (T.row d).d, ρ x with
    | .one _, .one (.int k), .c (.int _ n) => K (.c (.int k (k.wrap n)))
    | _, _, _ => none
  | .extract x i => match ρ x with
    | .tup vs => match vs[i]? with
      | some (true, cs) => K (.ag cs)
      | some (false, [c]) => K (.c c)
      | _ => none
    | _ => none
  | .makeFunc (.func g) first caps => match first.toList, capsOf ρ caps.toList with
    | [], some cs => K (.fn g cs)
    | _, _ => none
  | .nilCheck x => match ρ x with | .bx r o => K (.bx r o) | .pr e us o => K (.pr e us o) | .po r p e i o => K (.po r p e i o) | _ => none
  | .slice t x lo hi none => match (T.row t).d, ρ x with
    | .one (.slc e), .c (.rd e' xs) => if e = e' ∧ (T.row e).d.known = true then sliceK (.c (.rd e' xs)) (lo.map ρ) (hi.map ρ) K else none
    | .one .str, .c (.str s) => sliceK (.c (.str s)) (lo.map ρ) (hi.map ρ) K
    | _, _ => none
  | .call c => match c.callee, c.args.toList, c.argTypes.toList with
    | .builtin .len, [x], [t] => (match (T.row t).d with
      | .one (.slc _) => lenK rt (ρ x) K
      | .one .str => (match ρ x with | .c (.str s) => K (.c (.int .i64 s.size)) | _ => none)
      | _ => none)
    | .builtin .min, [x, y], _ => minMaxK false (ρ x) (ρ y) K
    | .builtin .max, [x, y], _ => minMaxK true (ρ x) (ρ y) K
    | _, _, _ => none
  | _ => none
end
end Go.Proofs.Ytlkcpabdpmenpaa.Eng
/- The evaluator, part 3: operations that make or change memory, calls, code, functions. Of no program. -/
namespace Go.Proofs.Ytlkcpabdpmenpaa.Eng
open Go.RowKit
set_option linter.unusedVariables false

/-! ### Aliases that are no longer good -/
def Cl.purge (r : Nat) (keep : Bool) : Cl → Cl
  | .al r' p e => if r' = r then (if keep && p.isEmpty then .al r' p e else .no) else .al r' p e
  | x => x
def Cap.mapC (f : Cl → Cl) : Cap → Cap | .c x => .c (f x) | x => x
def SV.purge (r : Nat) (keep : Bool) : SV → SV
  | .c x => .c (x.purge r keep) | .ag xs => .ag (xs.map (Cl.purge r keep))
  | .po r' p e i o => if r' = r then (if keep && p.isEmpty then .po r' p e i o else .no) else .po r' p e i o
  | .fn g caps => .fn g (caps.map (Cap.mapC (Cl.purge r keep)))
  | .tup vs => .tup (vs.map fun x => (x.1, x.2.map (Cl.purge r keep)))
  | x => x
def Root.purge (r : Nat) (keep : Bool) : Root → Root
  | .box t cs => .box t (cs.map (Cl.purge r keep)) | x => x
def St.purge (st : St) (r : Nat) (keep : Bool) : St := ⟨st.sl.map (SV.purge r keep), st.rt.map (Root.purge r keep), st.np⟩
/-- What was a root's goes into something else. -/
def St.consume (st : St) : List Nat → St
  | [] => st
  | r :: rs => ((st.purge r false).setR r .gone).consume rs
/-! ### What was one's own becomes something to be read only -/
def Cl.frz (r : Nat) (xs : List (List U)) : Cl → Cl
  | .al r' p e => if r' = r then .rd e (getP xs p) else .al r' p e
  | x => x
def SV.frz (r : Nat) (xs : List (List U)) : SV → SV
  | .c x => .c (x.frz r xs) | .ag cs => .ag (cs.map (Cl.frz r xs))
  | .po r' p e i o => if r' = r then .pr e ((getP xs p).getD i []) o else .po r' p e i o
  | .fn g caps => .fn g (caps.map (Cap.mapC (Cl.frz r xs)))
  | .tup vs => .tup (vs.map fun x => (x.1, x.2.map (Cl.frz r xs)))
  | x => x
def Root.frz (r : Nat) (xs : List (List U)) : Root → Root
  | .box t cs => .box t (cs.map (Cl.frz r xs)) | x => x
def St.freeze (st : St) (r : Nat) : St :=
  match st.rt[r]? with
  | some (.row _ _ xs) => (⟨st.sl.map (SV.frz r xs), st.rt.map (Root.frz r xs), st.np⟩ : St).setR r .gone
  | _ => st
def St.freezeAll (st : St) : List Nat → St
  | [] => st
  | r :: rs => (st.freeze r).freezeAll rs

/-! ### One shape for a loop's head, for a join -/
def Cl.rts : Cl → List Nat | .al r _ _ => [r] | _ => []
def Cap.rts : Cap → List Nat | .c x => x.rts | .bx r _ => [r] | .pr .. => []
def SV.rts : SV → List Nat
  | .c x => x.rts | .ag xs => xs.flatMap Cl.rts | .bx r _ => [r] | .pr .. => [] | .po r .. => [r] | .fn _ caps => caps.flatMap Cap.rts | .tup vs => vs.flatMap fun x => x.2.flatMap Cl.rts | .ud => []
def Root.rts : Root → List Nat | .box _ cs => cs.flatMap Cl.rts | _ => []
def dedup : List Nat → List Nat → List Nat
  | acc, [] => acc
  | acc, x :: xs => if acc.elem x then dedup acc xs else dedup (acc ++ [x]) xs
def posOf (r : Nat) : List Nat → Nat → Option Nat
  | [], _ => none
  | x :: xs, i => if x = r then some i else posOf r xs (i + 1)
def Cl.ren (ord : List Nat) : Cl → Cl
  | .al r p e => match posOf r ord 0 with | some k => .al k p e | none => .no
  | x => x
def Cap.ren (ord : List Nat) : Cap → Cap
  | .c x => .c (x.ren ord) | .bx r o => (match posOf r ord 0 with | some k => .bx k o | none => .c .no) | x => x
def SV.ren (ord : List Nat) : SV → SV
  | .c x => .c (x.ren ord) | .ag xs => .ag (xs.map (Cl.ren ord))
  | .bx r o => (match posOf r ord 0 with | some k => .bx k o | none => .no)
  | .po r p e i o => (match posOf r ord 0 with | some k => .po k p e i o | none => .no)
  | .fn g caps => .fn g (caps.map (Cap.ren ord)) | .tup vs => .tup (vs.map fun x => (x.1, x.2.map (Cl.ren ord)))
  | x => x
def Root.ren (ord : List Nat) : Root → Root
  | .box t cs => .box t (cs.map (Cl.ren ord)) | x => x
/-- What a region's entry is told: the temporaries that are still wanted; those whose rows are to be read only from here on. -/
structure HintR where
  live : List Nat
  frz : List Nat
  nils : List (Nat × Nat × TypeId)
def keepLive (live : List Nat) : List SV → Nat → List SV
  | [], _ => []
  | x :: xs, i => (if live.elem i then x else .no) :: keepLive live xs (i + 1)
def St.renum (st : St) : St :=
  let l1 := dedup (List.range st.np) (st.sl.flatMap SV.rts)
  let ord := dedup l1 (l1.flatMap fun r => match st.rt[r]? with | some x => x.rts | none => [])
  ⟨st.sl.map (SV.ren ord), ord.map fun r => match st.rt[r]? with | some x => x.ren ord | none => .gone, st.np⟩
def frzSlots (st : St) : List Nat → St
  | [] => st
  | i :: is => match st.sl.getD i .no with
    | .c (.al r [] _) => frzSlots (if st.np ≤ r then st.freeze r else st) is
    | _ => frzSlots st is
/-- A variable's nil slice becomes an empty row. -/
def ownNil (st : St) : List (Nat × Nat × TypeId) → St
  | [] => st
  | (t, o, e) :: xs => match st.sl.getD t .no with
    | .bx r 0 => (match st.rt[r]? with
      | some (.box ty cs) => (match cs[o]? with
        | some .nil => ownNil ((st.add (.row e true [])).setR r (.box ty (cs.set o (.al st.rt.length [] e)))) xs
        | _ => ownNil st xs)
      | _ => ownNil st xs)
    | _ => ownNil st xs
def St.clean (st : St) : Option HintR → St
  | none => st
  | some h => let st := ownNil (frzSlots st h.frz) h.nils; (⟨keepLive h.live st.sl 0, st.rt, st.np⟩ : St).renum

/-! ### Elements of rows -/
def clsOf : SV → Option (List Cl) | .c .no => none | .c x => some [x] | .ag xs => some xs | _ => none
/-- The data of an element that goes into a row; the roots that go into it. -/
def elemU (rt : List Root) (np : Nat) (deep : Bool) : List CT → List Cl → Option (List U × List Nat)
  | [], [] => some ([], [])
  | .slc e :: ts, .nil :: xs => (elemU rt np deep ts xs).map fun y => (.lst [] :: y.1, y.2)
  | .slc e :: ts, .rd e' ys :: xs => if deep = false ∧ e = e' then (elemU rt np deep ts xs).map fun y => (.lst ys :: y.1, y.2) else none
  | .slc e :: ts, .al r [] e' :: xs => if deep = true ∧ e = e' ∧ np ≤ r then (match rt[r]? with
      | some (.row _ true ys) => (elemU rt np deep ts xs).map fun y => (.lst ys :: y.1, r :: y.2)
      | _ => none) else none
  | .int k :: ts, .int k' n :: xs => if k = k' then (elemU rt np deep ts xs).map fun y => (.int n :: y.1, y.2) else none
  | .bool :: ts, .bool b :: xs => (elemU rt np deep ts xs).map fun y => (.bool b :: y.1, y.2)
  | .str :: ts, .str b :: xs => (elemU rt np deep ts xs).map fun y => (.str b :: y.1, y.2)
  | _, _ => none
def elemsU (rt : List Root) (np : Nat) (deep : Bool) (cts : List CT) : List (List Cl) → Option (List (List U) × List Nat)
  | [] => some ([], [])
  | x :: xs => match elemU rt np deep cts x, elemsU rt np deep cts xs with
    | some a, some b => some (a.1 :: b.1, a.2 ++ b.2)
    | _, _ => none
def hasRd (xs : List Cl) : Bool := xs.any fun | .rd .. => true | _ => false
def nodupB : List Nat → Bool | [] => true | x :: xs => !xs.elem x && nodupB xs
/-- The elements of a row's cells. -/
def chunk (size : Nat) (cs : List Cl) (len : Nat) : List (List Cl) := (List.range len).map fun i => (cs.drop (i * size)).take size
def zeroCells (cts : List CT) (n : Nat) : List Cl := (List.range n).map fun i => zeroCl (cts.getD (i % cts.length) .bool)
def buildCells (place : Nat → Option (Nat × Nat)) (ρ : Operand → SV) : List Cl → List (Nat × Operand) → Option (List Cl)
  | cs, [] => some cs
  | cs, (i, x) :: ps => match place i, clsOf (ρ x) with
    | some (o, n), some a => if a.length = n ∧ o + n ≤ cs.length then buildCells place ρ (spliceC cs o a) ps else none
    | _, _ => none

section
variable {R : Type}
def buildK (T : Tabs) (ρ : Operand → SV) (t : TypeId) (parts : List (Nat × Operand)) (K : SV → Option R) : Option R :=
  match (T.row t).d with
  | .st fs => if fs.all (fun f => (T.row f.1).d.known) then (match buildCells (fun i => (fs[i]?).map fun f => (f.2, T.size f.1)) ρ ((T.ct t).map zeroCl) parts with | some cs => K (.ag cs) | none => none) else none
  | .arr n e => if (T.row e).d.known then (match buildCells (fun i => some (i * T.size e, T.size e)) ρ ((T.ct t).map zeroCl) parts with | some cs => K (.ag cs) | none => none) else none
  | _ => none
/-- A variable that is a row of one element. -/
def rowBoxK (T : Tabs) (st : St) (t : TypeId) (cs : List Cl) (d : Option Tmp) (K : St → Option R) : Option R :=
  if T.size t ≠ 0 ∧ cs.length = T.size t then (match elemsU st.rt st.np (!hasRd cs) (T.ct t) [cs] with
    | some (xs, rs) => if nodupB rs then K (((st.consume rs).add (.row t (!hasRd cs) xs)).put d (.po st.rt.length [] t 0 0)) else none
    | none => none) else none
def allocK (T : Tabs) (ar : Bool) (st : St) (t : TypeId) (d : Option Tmp) (K : St → Option R) : Option R :=
  if (T.row t).d.known then (if ar then rowBoxK T st t ((T.ct t).map zeroCl) d K else K ((st.add (.box t ((T.ct t).map zeroCl))).put d (.bx st.rt.length 0))) else none
def boxK (T : Tabs) (ar : Bool) (st : St) (t : TypeId) (x : SV) (d : Option Tmp) (K : St → Option R) : Option R :=
  match clsOf x with
  | some cs => if ar then rowBoxK T st t cs d K else K ((st.add (.box t cs)).put d (.bx st.rt.length 0))
  | none => none
/-- A new row of these elements. -/
def newRow1 (T : Tabs) (st : St) (e : TypeId) (deep : Bool) (els : List (List Cl)) (d : Option Tmp) (K : St → Option R) : Option R :=
  match elemsU st.rt st.np deep (T.ct e) els with
  | some (xs, rs) => if nodupB rs then K (((st.consume rs).add (.row e deep xs)).put d (.c (.al st.rt.length [] e))) else none
  | none => none
/-- What was one's own, to be read only. -/
def unAl (rt : List Root) : Cl → Cl
  | .al r p e => (match rt[r]? with | some (.row _ _ xs) => .rd e (getP xs p) | _ => .no)
  | x => x
def isRowB (rt : List Root) (r : Nat) : Bool := match rt[r]? with | some (.row ..) => true | _ => false
/-- If some are to be read only, then all are. -/
def newRowK (T : Tabs) (st : St) (e : TypeId) (els : List (List Cl)) (d : Option Tmp) (K : St → Option R) : Option R :=
  let deep := !els.any hasRd
  let qs := dedup [] (els.flatMap fun x => x.flatMap Cl.rts)
  if deep || qs.isEmpty then newRow1 T st e deep els d K
  else if nodupB qs && qs.all (fun r => decide (st.np ≤ r) && isRowB st.rt r) then newRow1 T (st.consume qs) e false (els.map fun x => x.map (unAl st.rt)) d K else none
def buildSliceK (T : Tabs) (st : St) (t : TypeId) (len : Nat) (parts : List (Nat × Operand)) (d : Option Tmp) (K : St → Option R) : Option R :=
  match T.elem t with
  | some e => if (T.row e).d.known ∧ len * T.size e ≤ 16777216 ∧ T.size e ≠ 0 then (match buildCells (fun i => some (i * T.size e, T.size e)) (ev st) (zeroCells (T.ct e) (len * T.size e)) parts with
    | some cs => newRowK T st e (chunk (T.size e) cs len) d K
    | none => none) else none
  | none => none
def room (n bytes : Nat) : Bool := decide (n * bytes ≤ 140737488355328 ∧ n ≤ 9223372036854775807)
def makeSliceK (T : Tabs) (st : St) (t : TypeId) (l c : Operand) (d : Option Tmp) (K : St → Option R) : Option R :=
  match T.elem t, ev st l, ev st c with
  | some e, .c (.int .i64 n), .c (.int .i64 m) =>
    if (T.row e).d.known ∧ T.size e ≠ 0 then
      (match l, c with
      | .tmp a, .tmp b => if a = b then (bif decide (0 ≤ m) && room m.toNat (T.row e).bytes then K ((st.add (.row e true (List.replicate m.toNat ((T.ct e).map zeroU)))).put d (.c (.al st.rt.length [] e))) else none) else none
      | .const _, .tmp _ => if n = 0 then (bif decide (0 ≤ m) && room m.toNat (T.row e).bytes then K ((st.add (.row e true [])).put d (.c (.al st.rt.length [] e))) else none) else none
      | .const _, .const _ => if n = m then (bif decide (0 ≤ m) && room m.toNat (T.row e).bytes then K ((st.add (.row e true (List.replicate m.toNat ((T.ct e).map zeroU)))).put d (.c (.al st.rt.length [] e))) else none) else none
      | _, _ => none)
    else none
  | _, _, _ => none
/-- One cell of an array of bool is written. -/
def boolsSt (T : Tabs) (t' t : TypeId) (old cs : List Cl) : Option (List Bool × Bool) :=
  match boolsAt T t' t old, cs with
  | some bs, [.bool v] => some (bs, v)
  | _, _ => none
def setB (v : Bool) (o : Nat) : List Bool → Nat → List Cl
  | [], _ => []
  | b :: bs, k => .bool (bif decide (k = o) then v else b) :: setB v o bs (k + 1)
def storeK (T : Tabs) (st : St) (t : TypeId) (a x : SV) (d : Option Tmp) (K : St → Option R) : Option R :=
  match clsOf x with
  | some cs => if cs.length = T.size t ∧ (T.row t).d.known ∧ T.size t ≠ 0 then
    (match a with
    | .bx r o => match st.rt[r]? with
      | some (.box t' old) => match boolsSt T t' t old cs with
        | some (bs, v) => bif decide (o < bs.length) then K ((st.setR r (.box t' (setB v o bs 0))).put d .no) else none
        | none => if o + cs.length ≤ old.length then K ((st.setR r (.box t' (spliceC old o cs))).put d .no) else none
      | _ => none
    | .po r p e i o => match st.rt[r]? with
      | some (.row e0 deep xs) =>
        (match elemU st.rt st.np deep (((T.ct e).drop o).take cs.length) cs with
        | some (us, rs) => if nodupB (r :: rs) ∧ (deep = true ∨ p = []) then K ((((st.consume rs).purge r true).setR r (.row e0 deep (setP xs p (setEl (getP xs p) i o us)))).put d .no) else none
        | none => none)
      | _ => none
    | _ => none) else none
  | none => none
/-- The elements that are appended, if these are only read. -/
def srcOf (rt : List Root) : SV → Option (TypeId × List (List U))
  | .c (.rd e ys) => some (e, ys)
  | .c (.al r p e) => (match rt[r]? with | some (.row _ _ xs) => some (e, getP xs p) | _ => none)
  | _ => none
def bytesU (s : ByteArray) : List (List U) := s.data.toList.map fun b => [U.int b.toNat]
/-- A nil slice, before it is appended to, is an empty row. -/
def baseOf (st : St) (e : TypeId) : SV → Option (St × Nat)
  | .c .nil => some (st.add (.row e true []), st.rt.length)
  | .c (.al r [] e') => if e = e' then some (st, r) else none
  | _ => none
def appendK (T : Tabs) (st : St) (t t2 : TypeId) (s x : SV) (d : Option Tmp) (K : St → Option R) : Option R :=
  match T.elem t with
  | some e => if (T.row e).d.known ∧ T.size e ≠ 0 ∧ t2 = t then
    (match baseOf st e s with
    | some (st, r) => match st.rt[r]? with
      | some (.row e0 deep xs) =>
        if e0 = e ∧ st.np ≤ r then
        (if flatB (T.ct e) then
          (match (match x with
            | .c .nil => some (e, [])
            | x => srcOf st.rt x) with
          | some (e', ys) => if e' = e then
            (bif room (xs.length + ys.length) (T.row e).bytes then K (((st.purge r false).setR r (.row e deep (xs ++ ys))).put d (.c (.al r [] e))) else none) else none
          | none => none)
        else match deep, x with
          | true, .c (.al r2 [] e2) => match st.rt[r2]? with
            | some (.row e2' true ys) => if e2' = e ∧ e2 = e ∧ r2 ≠ r ∧ st.np ≤ r2 then
              (bif room (xs.length + ys.length) (T.row e).bytes then K ((((st.consume [r2]).purge r false).setR r (.row e true (xs ++ ys))).put d (.c (.al r [] e))) else none) else none
            | _ => none
          | false, .c (.rd e2 ys) => if e2 = e then
              (bif room (xs.length + ys.length) (T.row e).bytes then K (((st.purge r false).setR r (.row e false (xs ++ ys))).put d (.c (.al r [] e))) else none) else none
          | false, .c (.al r2 [] e2) => match st.rt[r2]? with
            | some (.row e2' false ys) => if e2' = e ∧ e2 = e ∧ r2 ≠ r then
              (bif room (xs.length + ys.length) (T.row e).bytes then K (((st.purge r false).setR r (.row e false (xs ++ ys))).put d (.c (.al r [] e))) else none) else none
            | _ => none
          | _, _ => none)
        else none
      | _ => none
    | none => none) else none
  | none => none

/-- A part of a flat row of one's own: from here on the row may begin anywhere in its block. -/
def cutK (T : Tabs) (st : St) (t : TypeId) (x : SV) (lo hi : Option SV) (d : Option Tmp) (K : St → Option R) : Option R :=
  match (T.row t).d, x with
  | .one (.slc e), .c (.al r [] e') => (match st.rt[r]? with
    | some (.row e0 dp xs) => if e = e' ∧ e0 = e ∧ st.np ≤ r ∧ flatB (T.ct e) = true ∧ (T.row e).d.known = true then
        (match lo.getD (.c (.int .i64 0)), hi.getD (.c (.int .i64 xs.length)) with
        | .c (.int _ l), .c (.int _ h) => bif decide (0 ≤ l ∧ l ≤ h ∧ h ≤ (xs.length : Int)) then K (((st.purge r false).setR r (.row e dp ((xs.drop l.toNat).take (h - l).toNat))).put d (.c (.al r [] e))) else none
        | _, _ => none) else none
    | _ => none)
  | _, _ => none
/-! ### Functions of the library that are not run, but known: at slices of integers -/
inductive Prim where
  | sort | compact | grow (e : TypeId)
def rowInts (xs : List (List U)) : List Int := xs.map fun x => (x.getD 0 U0).toInt
def intsRow (l : List Int) : List (List U) := l.map fun n => [U.int n]
def sortL (l : List Int) : List Int := l.mergeSort fun x y => decide (x ≤ y)
/-- Runs of what is equal become one. -/
def compL : List Int → List Int
  | [] => []
  | x :: l => match compL l with | [] => [x] | y :: k => if x = y then y :: k else x :: y :: k
def sortU (xs : List (List U)) : List (List U) := intsRow (sortL (rowInts xs))
def compU (xs : List (List U)) : List (List U) := intsRow (compL (rowInts xs))
def primK (T : Tabs) (st : St) (p : Prim) (args : List SV) (d : Option Tmp) (K : St → Option R) : Option R :=
  match p, args with
  | .sort, [.c (.al r [] e)] => (match st.rt[r]? with
    | some (.row e0 true xs) => if e0 = e ∧ st.np ≤ r ∧ T.ct e = [.int .i64] then
        (bif room xs.length 8 then K (((st.purge r true).setR r (.row e true (sortU xs))).put d (.tup [])) else none) else none
    | _ => none)
  | .compact, [.c (.al r [] e)] => (match st.rt[r]? with
    | some (.row e0 true xs) => if e0 = e ∧ st.np ≤ r ∧ T.ct e = [.int .i64] then
        (bif room xs.length 8 then K (((st.purge r false).setR r (.row e true (compU xs))).put d (.c (.al r [] e))) else none) else none
    | _ => none)
  | .grow e, [.c .nil, .c (.int .i64 n)] => if T.ct e = [.int .i64] then
      (bif decide (0 ≤ n) && room n.toNat 8 then K ((st.add (.row e true [])).put d (.c (.al st.rt.length [] e))) else none) else none
  | _, _ => none

/-! ### Calls -/
def capK (T : Tabs) (rt : List Root) : Cap → Option Cap
  | .c x => some (.c (kCl rt x))
  | .bx r o => match rt[r]? with
    | some (.box t cs) => if ctsMatch (T.ct t) cs then some (.pr t (cs.map (clU rt)) o) else none
    | _ => none
  | .pr e us o => some (.pr e us o)
def capsK (T : Tabs) (rt : List Root) : List Cap → Option (List Cap)
  | [] => some []
  | x :: xs => match capK T rt x, capsK T rt xs with | some a, some b => some (a :: b) | _, _ => none
/-- An argument that the callee may read only. -/
def argK (T : Tabs) (rt : List Root) : SV → Option SV
  | .c .no => none
  | .c x => some (.c (kCl rt x)) | .ag xs => some (.ag (xs.map (kCl rt)))
  | .bx r o => (capK T rt (.bx r o)).map Cap.sv
  | .pr e us o => some (.pr e us o)
  | .po r p e i o => (match rt[r]? with | some (.row _ _ xs) => some (.pr e ((getP xs p).getD i []) o) | _ => none)
  | .fn g caps => (capsK T rt caps).map (.fn g)
  | _ => none
/-- A nil slice is read as one without elements. -/
def nilCl : CT → Cl → Cl
  | .slc e, .nil => .rd e []
  | _, x => x
def nilCls : List CT → List Cl → List Cl
  | t :: ts, x :: xs => nilCl t x :: nilCls ts xs
  | _, xs => xs
def fixNil (T : Tabs) (ty : Option TypeId) (x : SV) : SV :=
  match ty with
  | none => x
  | some t => match x with
    | .c y => (match T.ct t with | [ct] => .c (nilCl ct y) | _ => .c y)
    | .ag ys => .ag (nilCls (T.ct t) ys)
    | x => x
/-- A cell that the callee may write behind. -/
def argM (rt : List Root) (ct : CT) (x : Cl) (n : Nat) : Option (Cl × List (Root × Option (Nat × Path))) :=
  match ct, x with
  | .slc e, .al r p e' => (match rt[r]? with
    | some (.row _ true xs) => if e = e' then some (.al n [] e, [(.row e true (getP xs p), some (r, p))]) else none
    | _ => none)
  | .slc e, .nil => some (.al n [] e, [(.row e true [], none)])
  | .slc _, _ => none
  | ct, x => if ctMatch ct x then some (x, []) else none
def argsM (rt : List Root) : List CT → List Cl → Nat → Option (List Cl × List (Root × Option (Nat × Path)))
  | [], [], _ => some ([], [])
  | t :: ts, x :: xs, n => match argM rt t x n with
    | some (y, l) => (argsM rt ts xs (n + l.length)).map fun z => (y :: z.1, l ++ z.2)
    | none => none
  | _, _, _ => none
/-- All arguments: what the callee gets; its roots, with the places that they stand for; the roots that it reads. -/
def prep (T : Tabs) (rt : List Root) : List PM → List TypeId → List SV → Nat → Option (List SV × List (Root × Option (Nat × Path)) × List Nat)
  | _, _, [], _ => some ([], [], [])
  | pm, ty, x :: xs, n =>
    match pm.headD .k with
    | .k => match argK T rt x with
      | some y => (prep T rt pm.tail ty.tail xs n).map fun z => (fixNil T ty.head? y :: z.1, z.2.1, x.rts ++ (x.rts.flatMap fun r => match rt[r]? with | some c => c.rts | none => []) ++ z.2.2)
      | none => none
    | .m => match x with
      | .c c => match argsM rt (T.ct (ty.headD 0)) [c] n with
        | some ([y], l) => (prep T rt pm.tail ty.tail xs (n + l.length)).map fun z => (.c y :: z.1, l ++ z.2.1, z.2.2)
        | _ => none
      | .ag cs => match argsM rt (T.ct (ty.headD 0)) cs n with
        | some (ys, l) => (prep T rt pm.tail ty.tail xs (n + l.length)).map fun z => (.ag ys :: z.1, l ++ z.2.1, z.2.2)
        | _ => none
      | .po r [] e 0 0 => match rt[r]? with
        | some (.row e0 d ys) => if e = e0 then (prep T rt pm.tail ty.tail xs (n + 1)).map fun z => (.po n [] e 0 0 :: z.1, (.row e d ys, some (r, [])) :: z.2.1, z.2.2) else none
        | _ => none
      | _ => none
/-- What the callee has written behind its arguments. -/
def putBack (st : St) : List (Option (Nat × Path)) → List (List (List U)) → Nat → St
  | [], _, _ => st
  | none :: ls, ms, i => putBack st ls ms (i + 1)
  | some (r, p) :: ls, ms, i =>
    match st.rt[r]? with
    | some (.row e deep xs) => putBack ((st.purge r true).setR r (.row e deep (setP xs p (ms.getD i [])))) ls ms (i + 1)
    | _ => st
/-- A result's cells, and the roots that come with it. -/
def resCells (md : RM) : List CT → List U → Nat → Nat → List Cl × List Root
  | [], _, _, _ => ([], [])
  | .slc e :: ts, us, i, n => match md with
    | .ro => let z := resCells md ts us (i + 1) n; (.rd e (us.getD i U0).toLst :: z.1, z.2)
    | md => let z := resCells md ts us (i + 1) (n + 1); (.al n [] e :: z.1, .row e (decide (md = .own)) (us.getD i U0).toLst :: z.2)
  | t :: ts, us, i, n => let z := resCells md ts us (i + 1) n; (Cl.ofU t (us.getD i U0) :: z.1, z.2)
/-- One result; a pointer comes with the row of one element that it points into. -/
def resOne (T : Tabs) (md : RM) (t : TypeId) (us : List U) (n : Nat) : List Cl × List Root := match md with | .ptr e => ([.al n [] e], [.row e false (us.getD 0 U0).toLst]) | md => resCells md (T.ct t) us 0 n
def results1 (T : Tabs) : List RM → List TypeId → List (List U) → Nat → Nat → List (Bool × List Cl) × List Root
  | _, [], _, _, _ => ([], [])
  | rm, t :: ts, us, i, n =>
    let a := resOne T (rm.headD .own) t (us.getD i []) n
    let z := results1 T rm.tail ts us (i + 1) (n + a.2.length)
    ((T.agg t, a.1) :: z.1, a.2 ++ z.2)
def resSV : List (Bool × List Cl) → SV
  | [(true, cs)] => .ag cs
  | [(false, [c])] => .c c
  | [(false, _)] => .no
  | vs => .tup vs
/-- A function that hands back a pointer. -/
def isPtr (rs : List RM) : Bool := match rs with | [.ptr _] => true | _ => false
def resOf (rs : List RM) (z : List (Bool × List Cl)) : SV := if isPtr rs then (match z with | [(_, [.al n [] e])] => .po n [] e 0 0 | _ => .no) else resSV z
/-- A row whose elements are only read: the callee must be given nothing else to read. -/
def shalL (l : Root × Option (Nat × Path)) : Bool := match l.1 with | .row _ false _ => true | _ => false
inductive Ext where
  | normal | exit (id : Nat) | ret
def noBox (rt : List Root) (rs : List Nat) : Bool := rs.all fun r => match rt[r]? with | some (.row ..) => true | _ => false
structure Env where
  T : Tabs
  eqT : TypeId → Bool
  sig : FuncId → Sig
  fns : FuncId → Option (List TypeId × List TypeId)
  den : FuncId → List SV → List Root → Option Ret
  iter : Code → (St → St) → (St → (Ext → St → Option Ret) → Option Ret) → St → (Ext → St → Option Ret) → Option Ret
  hint : Nat → Option HintR
  prim : FuncId → Option Prim
  asRow : Tmp → Bool
/-- A call. -/
def callK (E : Env) (st : St) (g : FuncId) (args : List SV) (caps : List Cap) (d : Option Tmp) (K : St → Option R) : Option R :=
  match E.fns g with
  | some (pts, rts) => if pts.length = args.length ∧ (isPtr (E.sig g).rs || rts.all (fun t => (E.T.row t).d.known)) then
    (match prep E.T st.rt (E.sig g).ps pts (args ++ caps.map Cap.sv) 0 with
    | some (svs, links, kr) =>
      let mr := links.filterMap fun l => l.2.map (·.1)
      let ro := (E.sig g).rs.any fun m => !decide (m = .own)
      if nodupB mr ∧ (mr.all fun r => !kr.elem r) ∧ (links.any shalL = false ∨ kr = []) ∧ (ro = false ∨ (noBox st.rt kr = true ∧ kr.all (fun r => decide (st.np ≤ r)) = true)) then
        fList fSV svs fun svs => fList fRoot (links.map (·.1)) fun ms => (E.den g svs ms).bind fun ret =>
          fSt (putBack (if ro then st.freezeAll (dedup [] kr) else st) (links.map (·.2)) ret.ms 0) fun st =>
          K ((⟨st.sl, st.rt ++ (results1 E.T (E.sig g).rs rts ret.res 0 st.rt.length).2, st.np⟩ : St).put d (resOf (E.sig g).rs (results1 E.T (E.sig g).rs rts ret.res 0 st.rt.length).1))
      else none
    | none => none) else none
  | none => none
/-- A call in a region whose order is drawn: what comes back is to be read only. -/
def callD (E : Env) (st : St) (g : FuncId) (args : List SV) (caps : List Cap) (K : SV → Option R) : Option R :=
  match E.fns g with
  | some (pts, rts) => if pts.length = args.length ∧ rts.all (fun t => (E.T.row t).d.known) then
    (match prep E.T st.rt (E.sig g).ps pts (args ++ caps.map Cap.sv) 0 with
    | some (svs, [], kr) => if ((E.sig g).rs.any fun m => isPtr [m]) || (((E.sig g).rs.any fun m => !decide (m = .own)) && !kr.isEmpty) then none else
        fList fSV svs fun svs => (E.den g svs []).bind fun ret => K (resSV (results1 E.T (rts.map fun _ => RM.ro) rts ret.res 0 0).1)
    | _ => none) else none
  | none => none
end
end Go.Proofs.Ytlkcpabdpmenpaa.Eng
/- The evaluator, part 4: regions, code, functions. Of no program. -/
namespace Go.Proofs.Ytlkcpabdpmenpaa.Eng
open Go.RowKit
set_option linter.unusedVariables false

section
variable {R : Type}
/-- Whether a variable is to be a row of one element. -/
def rowAt (E : Env) (o : Oper) : Bool := match o.dst with | some d => E.asRow d | none => false
/-- One operation that is carried out. -/
def opK (E : Env) (o : Oper) (st : St) (K : St → Option R) : Option R :=
  match o.op with
  | .alloc t => allocK E.T (rowAt E o) st t o.dst K
  | .box t x => boxK E.T (rowAt E o) st t (ev st x) o.dst K
  | .build t parts => buildK E.T (ev st) t parts.toList fun v => K (st.put o.dst v)
  | .buildSlice t len parts => buildSliceK E.T st t len parts.toList o.dst K
  | .makeSlice t l c => makeSliceK E.T st t l c o.dst K
  | .store t a x => storeK E.T st t (ev st a) (ev st x) o.dst K
  | .call c => match c.callee, c.args.toList, c.argTypes.toList with
    | .value f, args, _ => (match ev st f with
      | .fn g caps => (match E.prim g with
        | some p => if caps.isEmpty then primK E.T st p (args.map (ev st)) o.dst K else none
        | none => callK E st g (args.map (ev st)) caps o.dst K)
      | _ => none)
    | .builtin .append, [s, x], [t, t2] => appendK E.T st t t2 (ev st s) (ev st x) o.dst K
    | _, _, _ => qK E.T E.eqT st.rt (ev st) o.op fun v => K (st.put o.dst v)
  | .assign x => (match ev st x, E.T.elem o.type with
    | .c .nil, some e => K ((st.add (.row e true [])).put o.dst (.c (.al st.rt.length [] e)))
    | v, _ => K (st.put o.dst v))
  | .slice t x lo hi none => (match ev st x with
    | .c (.al ..) => cutK E.T st t (ev st x) (lo.map (ev st)) (hi.map (ev st)) o.dst K
    | _ => qK E.T E.eqT st.rt (ev st) o.op fun v => K (st.put o.dst v))
  | _ => qK E.T E.eqT st.rt (ev st) o.op fun v => K (st.put o.dst v)
/-- One operation of a region whose order is drawn: it changes nothing but its temporary. -/
def opD (E : Env) (o : Oper) (st : St) (K : SV → Option R) : Option R :=
  match o.op with
  | .build t parts => buildK E.T (ev st) t parts.toList K
  | .call c => match c.callee, c.args.toList, c.argTypes.toList with
    | .value f, args, _ => (match ev st f with
      | .fn g caps => callD E st g (args.map (ev st)) caps K
      | _ => none)
    | _, _, _ => qK E.T E.eqT st.rt (ev st) o.op K
  | _ => qK E.T E.eqT st.rt (ev st) o.op K
/-- Whether an operation is carried out. -/
def wantedK (ops : List Oper) (o : Oper) (st : St) (yes no : St → Option R) : Option R :=
  match o.guard with
  | none => yes st
  | some (j, want) => match (ops[j]?).bind (·.dst) with
    | none => none
    | some t => match st.sl.getD t .no with
      | .c (.bool b) =>
        bif b then (if want then yes { st with sl := st.sl.set t (.c (.bool true)) } else no { st with sl := st.sl.set t (.c (.bool true)) })
        else (if want then no { st with sl := st.sl.set t (.c (.bool false)) } else yes { st with sl := st.sl.set t (.c (.bool false)) })
      | .ud => no st
      | _ => none
def killAll (st : St) : List Oper → St
  | [] => st
  | o :: os => killAll (match o.guard with | some _ => st.put o.dst .no | none => st) os
def isPick (o : Oper) : Bool := match o.op, o.guard with | .pick .., none => true | _, _ => false
/-! A row inside an element that is appended to, and stored back at once: x[i].F = append(x[i].F, ..) -/
/-- The temporary; the root, the element and its cell; the row's elements' type; what the row becomes. -/
structure Pend where
  d : Tmp
  r : Nat
  i : Nat
  o : Nat
  e : TypeId
  zs : List (List U)
def pendOf (T : Tabs) (st : St) (o : Oper) : Option (Pend × Nat) :=
  match o.guard, o.dst, o.op with
  | none, some d, .call c => (match c.callee, c.args.toList, c.argTypes.toList with
    | .builtin .append, [s, x], [t, t2] => (match ev st s with
      | .c (.al r [(i, k)] e) => (match T.elem t, st.rt[r]?, srcOf st.rt (ev st x) with
        | some e', some (.row e0 true xs), some (e2, ys) => if e' = e ∧ e2 = e ∧ t2 = t ∧ (T.row e).d.known = true ∧ T.size e ≠ 0 ∧ flatB (T.ct e) = true ∧ d < st.sl.length then some (⟨d, r, i, k, e, getP xs [(i, k)] ++ ys⟩, (getP xs [(i, k)]).length + ys.length) else none
        | _, _, _ => none)
      | _ => none)
    | _, _, _ => none)
  | _, _, _ => none
def pendStoreK (T : Tabs) (st : St) (t : TypeId) (a : SV) (x : Operand) (pd : Pend) (d : Option Tmp) (K : St → Option R) : Option R :=
  match pd with
  | ⟨pd, pr, pi, po, pe, zs⟩ => match a, x with
    | .po r [] e0 i k, .tmp d' => (match st.rt[r]? with
      | some (.row e1 true xs) => if d' = pd ∧ r = pr ∧ k = po ∧ e0 = e1 ∧ T.ct t = [.slc pe] ∧ (T.row t).d.known = true then
          (bif decide (i = pi) then K (((st.purge r true).setR r (.row e1 true (setEl xs i k [.lst zs]))).put d .no) else none) else none
      | _ => none)
    | _, _ => none
def runOpsP (E : Env) (ops : List Oper) : List Oper → Option Pend → St → (St → Option R) → Option R
  | [], none, st, K => K st
  | [], some _, st, K => none
  | o :: os, none, st, K => match pendOf E.T st o with
    | some (pd, n) => bif room n (E.T.row pd.e).bytes then fSt ((st.purge pd.r true).put o.dst .no) fun st' => runOpsP E ops os (some pd) st' K else none
    | none => wantedK ops o st (fun st => opK E o st fun st' => fSt (if isPick o then killAll st' ops else st') fun st' => runOpsP E ops os none st' K) (fun st => fSt (st.put o.dst .ud) fun st' => runOpsP E ops os none st' K)
  | o :: os, some pd, st, K => match o.guard, o.op with
    | none, .store t a x => pendStoreK E.T st t (ev st a) x pd o.dst fun st' => fSt st' fun st' => runOpsP E ops os none st' K
    | none, _ => if o.dst = some pd.d then none else qK E.T E.eqT st.rt (ev st) o.op fun v => fSt (st.put o.dst v) fun st' => runOpsP E ops os (some pd) st' K
    | some _, _ => none
def runOps (E : Env) (ops : List Oper) (os : List Oper) (st : St) (K : St → Option R) : Option R := runOpsP E ops os none st K
/-- The order of a region is drawn: its operations, in the text's order. -/
def runD (E : Env) (ops : List Oper) : List Oper → St → (St → Option R) → Option R
  | [], st, K => K st
  | o :: os, st, K => wantedK ops o st (fun st => opD E o st fun v => fSt (st.put o.dst v) fun st' => runD E ops os st' K) (fun st => fSt (st.put o.dst .ud) fun st' => runD E ops os st' K)
def waits (o : Oper) (i : Nat) : Bool := o.after.toList.any fun e => e.on == i && Region.binds .any e
def looks (ops : List Oper) (o : Oper) : List Tmp :=
  (o.op.operands.toList.filterMap fun | .tmp t => some t | _ => none) ++ (match o.guard with | some (g, _) => ((ops[g]?).bind (·.dst)).toList | none => [])
/-- Two operations, i ahead of j: j waits for i, or they do not meet. -/
def pairOK (ops : List Oper) (i : Nat) (x y : Oper) : Bool :=
  waits y i || ((match x.dst with | some d => !(looks ops y).elem d && !decide (y.dst = some d) | none => true) && (match y.dst with | some d => !(looks ops x).elem d | none => true))
def drawOK (ops : List Oper) : Bool :=
  ops.zipIdx.all fun y => (y.1.after.toList.all fun e => !Region.binds .any e || decide (e.on < y.2)) && (ops.zipIdx.all fun x => !decide (x.2 < y.2) || pairOK ops x.2 x.1 y.1) &&
    (match y.1.op with | .select .. => false | _ => true)
end
/-! ### Regions whose order is drawn that make or change memory: calls, appends and stores keep their order; the others float -/
section
variable {R : Type}
/-- Whether a temporary is a new row's, a call's result, or what holds one. -/
def isNew (ops : List Oper) (t : Tmp) : Bool := ops.any fun o => decide (o.dst = some t) && (match o.op with | .buildSlice .. => true | .call c => (match c.callee with | .value _ => true | .builtin .append => true | _ => false) | _ => false)
def holdsNew (ops : List Oper) (t : Tmp) : Bool := isNew ops t || ops.any fun o => decide (o.dst = some t) && (match o.op with | .build _ parts => parts.toList.any fun x => (match x.2 with | .tmp t' => isNew ops t' | _ => false) | _ => false)
def dirs (o : Oper) : List Nat := (o.after.toList.filter (Region.binds .any)).map (·.on)
def sureHeavy (o : Oper) : Bool := match o.op with
  | .store .. => true
  | .call c => (match c.callee with | .value _ => true | .builtin .append => true | _ => false)
  | _ => false
/-- Whether the next call, append or store waits for this operation (else it floats). -/
def tied (ops : List Oper) (o : Oper) : Bool := match ops.zipIdx.find? fun x => decide (x.1.dst = o.dst) with
  | some (_, i) => (match (ops.drop (i + 1)).find? sureHeavy with
    | some x => (dirs x).any fun a => Nat.beq a i || (match ops[a]? with | some y => (dirs y).elem i | none => false)
    | none => true)
  | none => true
def isHeavy (ops : List Oper) (o : Oper) : Bool := match o.op with
  | .buildSlice _ _ parts => (parts.toList.any fun x => (match x.2 with | .tmp t => holdsNew ops t | _ => false)) && tied ops o
  | .store .. => true
  | .call c => (match c.callee with | .value _ => true | .builtin .append => true | _ => false)
  | _ => false
def isFresh (o : Oper) : Bool := match o.op with | .alloc _ | .buildSlice .. => true | _ => false
/-- What comes ahead of each operation in every order. -/
def preTab : List Oper → List (List Nat) → List (List Nat)
  | [], tbl => tbl
  | o :: os, tbl => fList (fun x K => fNat x K) (dedup [] ((dirs o).flatMap fun a => a :: tbl.getD a [])) fun l => preTab os (tbl ++ [l])
/-- The order that the evaluator takes: what floats comes as late as it may. -/
def schedGo (n : Nat) (tbl : List (List Nat)) : List Nat → List Nat → List Nat
  | [], done => done ++ (List.range n).filter fun j => !done.elem j
  | h :: hs, done => fList (fun x K => fNat x K) (done ++ ((List.range n).filter fun j => (tbl.getD h []).elem j && !done.elem j) ++ [h]) fun l => schedGo n tbl hs l
def heavies (ops : List Oper) : List Nat := (ops.zipIdx.filter fun x => isHeavy ops x.1).map (·.2)
def orderOK (ops : List Oper) (tbl : List (List Nat)) : List Nat → List Nat → Bool
  | [], _ => true
  | i :: L, done => (tbl.getD i []).all done.elem && !done.elem i && (match ops[i]? with | some o => !isHeavy ops o || done.all (tbl.getD i []).elem | none => false) && orderOK ops tbl L (done ++ [i])
def apartB (ops : List Oper) (x y : Oper) : Bool :=
  (match x.dst with | some d => !(looks ops y).elem d && !decide (y.dst = some d) | none => true) && (match y.dst with | some d => !(looks ops x).elem d | none => true)
def isSelect (o : Oper) : Bool := match o.op with | .select .. => true | _ => false
def memOK (ops : List Oper) (tbl : List (List Nat)) (sched : List Nat) : Bool :=
  (ops.zipIdx.all fun y => y.1.guard.isNone && !isSelect y.1 && ((dirs y.1).all fun a => decide (a < y.2)) && ((tbl.getD y.2 []).all fun j => (dirs y.1).any fun a => a == j || (tbl.getD a []).elem j) &&
    (ops.zipIdx.all fun x => x.2 == y.2 || (tbl.getD x.2 []).elem y.2 || (tbl.getD y.2 []).elem x.2 || apartB ops x.1 y.1) && (ops.zipIdx.all fun x => x.2 == y.2 || x.1.dst.isNone || !decide (x.1.dst = y.1.dst))) &&
  ((List.range ops.length).all sched.elem) && orderOK ops tbl sched []
def Cl.isNo : Cl → Bool | .no => true | _ => false
def SV.whole : SV → Bool
  | .c x => !x.isNo | .ag xs => xs.all fun x => !x.isNo | .fn _ caps => caps.all fun | .c x => !x.isNo | _ => true
  | .tup vs => vs.all fun x => x.2.all fun x => !x.isNo | _ => true
def wholeOps (st : St) (o : Oper) : Bool := o.op.operands.toList.all fun x => (ev st x).whole
def SV.tidy : SV → Bool | .tup vs => vs.all fun x => x.1 || x.2.length == 1 | _ => true
def SV.clear (T : List Nat) (x : SV) : Bool := x.rts.all fun r => !T.elem r
def maskRt (T : List Nat) : List Root → Nat → List Root
  | [], _ => []
  | x :: xs, i => (if T.elem i then .gone else x) :: maskRt T xs (i + 1)
/-- The roots that an operation meets that may come before or behind the others: what those touch is not to be seen. -/
def maskOf (pre : List Nat) (ts : List (Nat × List Nat)) : List Nat := ts.flatMap fun x => if pre.elem x.1 then [] else x.2
def news (n m : Nat) : List Nat := (List.range (m - n)).map (n + ·)
/-- What a call, a store changes. -/
def touch (E : Env) (o : Oper) (st : St) : List Nat :=
  match o.op with
  | .store _ a x => (ev st a).rts ++ (ev st x).rts
  | .buildSlice t len parts => (match E.T.elem t with
    | some e => (match buildCells (fun i => some (i * E.T.size e, E.T.size e)) (ev st) (zeroCells (E.T.ct e) (len * E.T.size e)) parts.toList with
      | some cs => (chunk (E.T.size e) cs len).flatMap fun x => x.flatMap Cl.rts
      | none => [])
    | none => [])
  | .call c => (match c.callee with
    | .value f => (match ev st f with
      | .fn g caps => (match E.fns g with
        | some (pts, _) => (match prep E.T st.rt (E.sig g).ps pts (c.args.toList.map (ev st) ++ caps.map Cap.sv) 0 with
          | some (_, links, _) => links.filterMap fun l => l.2.map (·.1)
          | none => [])
        | none => [])
      | _ => [])
    | _ => c.args.toList.flatMap fun x => (ev st x).rts)
  | _ => []
def opH (E : Env) (o : Oper) (st : St) (K : St → Option R) : Option R :=
  match o.op with
  | .store t a x => storeK E.T st t (ev st a) (ev st x) o.dst K
  | .buildSlice t len parts => buildSliceK E.T st t len parts.toList o.dst K
  | .call c => match c.callee, c.args.toList, c.argTypes.toList with
    | .value f, args, _ => (match ev st f with
      | .fn g caps => if ((E.sig g).rs.any fun m => !decide (m = .own)) = true then none else callK E st g (args.map (ev st)) caps o.dst K
      | _ => none)
    | .builtin .append, [s, x], [t, t2] => appendK E.T st t t2 (ev st s) (ev st x) o.dst K
    | _, _, _ => none
  | _ => none
/-- New memory, at a place of its own. -/
def freshK (T : Tabs) (ρ : Operand → SV) (op : Op) (k : Nat) (K : Root → SV → Option R) : Option R :=
  match op with
  | .alloc t => if (T.row t).d.known then K (.box t ((T.ct t).map zeroCl)) (.bx k 0) else none
  | .buildSlice t len parts => (match T.elem t with
    | some e => if (T.row e).d.known ∧ len * T.size e ≤ 16777216 ∧ T.size e ≠ 0 then (match buildCells (fun i => some (i * T.size e, T.size e)) ρ (zeroCells (T.ct e) (len * T.size e)) parts.toList with
      | some cs => (match elemsU [] 0 (!(chunk (T.size e) cs len).any hasRd) (T.ct e) (chunk (T.size e) cs len) with
        | some (xs, _) => K (.row e (!(chunk (T.size e) cs len).any hasRd) xs) (.c (.al k [] e))
        | none => none)
      | none => none) else none
    | none => none)
  | _ => none
def opQ (E : Env) (o : Oper) (st : St) (K : SV → Option R) : Option R :=
  match o.op with
  | .build t parts => buildK E.T (ev st) t parts.toList K
  | _ => qK E.T E.eqT st.rt (ev st) o.op K
/-- What a floating operation leaves. -/
structure Fl where
  i : Nat
  d : Option Tmp
  v : SV
  x : Option (Nat × Root)
def Fl.ap (e : Fl) (st : St) : St := (match e.x with | some (k, r) => st.setR k r | none => st).put e.d e.v
def goneAt (rt : List Root) (k : Nat) : Bool := match rt[k]? with | some .gone => true | _ => false
def aheadOK (ks : List Nat) (st : St) : Bool := ks.all (goneAt st.rt) && (st.sl.all fun x => x.clear ks && x.tidy) && st.rt.all fun x => x.rts.all fun r => !ks.elem r
def freshAt (ops : List Oper) (i : Nat) : Bool := match ops[i]? with | some o => isFresh o && !isHeavy ops o | none => false
def freshL (ops : List Oper) : List Nat := (List.range ops.length).filter (freshAt ops)
def runM (E : Env) (ops : List Oper) (tbl : List (List Nat)) (pl : Nat → Nat) : List Nat → List (Nat × List Nat) → St → (St → Option R) → Option R
  | [], _, st, K => K st
  | i :: L, ts, st, K =>
    if aheadOK (((i :: L).filter (freshAt ops)).map pl) st then (match ops[i]? with
    | none => none
    | some o =>
      if isHeavy ops o then opH E o st fun st1 => fSt st1 fun st1 => fList (fun x K => fNat x K) (touch E o st ++ news st.rt.length st1.rt.length) fun T => runM E ops tbl pl L (ts ++ [(i, T)]) st1 K
      else fList (fun x K => fNat x K) (maskOf (tbl.getD i []) ts) fun T =>
        if isFresh o then freshK E.T (ev st) o.op (pl i) fun x v =>
          if wholeOps st o && v.clear T && decide (x.rts = []) then fSt (Fl.ap ⟨i, o.dst, v, some (pl i, x)⟩ st) fun st1 => runM E ops tbl pl L (ts ++ [(i, [pl i])]) st1 K else none
        else opQ E o ⟨st.sl, maskRt T st.rt 0, st.np⟩ fun v =>
          if wholeOps st o && v.whole && v.tidy && v.clear T && ((ts.all fun x => (tbl.getD i []).elem x.1 || freshAt ops x.1) || v.clear ((freshL ops).map pl)) then fSt (Fl.ap ⟨i, o.dst, v, none⟩ st) fun st1 => runM E ops tbl pl L ts st1 K else none) else none
/-- Where an operation's new memory goes. -/
def placeOf (base : Nat) (F : List Nat) (i : Nat) : Nat := base + (posOf i F 0).getD 0
def holes (st : St) (n : Nat) : St := ⟨st.sl, st.rt ++ List.replicate n .gone, st.np⟩
def runMem (E : Env) (ops : List Oper) (st : St) (K : St → Option R) : Option R :=
  fList (fun x K => fList (fun x K => fNat x K) x K) (preTab ops []) fun tbl => fList (fun x K => fNat x K) (schedGo ops.length tbl (heavies ops) []) fun sched => fList (fun x K => fNat x K) (freshL ops) fun F =>
    if memOK ops tbl sched then fSt (holes st F.length) fun st1 => runM E ops tbl (placeOf st.rt.length F) sched [] st1 K else none
/-- Whether a region must be run so. -/
def isMem (sig : FuncId → Sig) (ops : List Oper) : Bool := ops.any fun o => match o.op with
  | .alloc _ | .buildSlice .. | .store .. | .makeSlice .. | .box .. => true
  | .call c => (match c.callee with | .builtin .append => true | .value (.func g) => (sig g).ps.elem .m | _ => false)
  | _ => false
end
def loopK (rec : St → Option Ret) (K : Ext → St → Option Ret) : Ext → St → Option Ret := fun x st' => match x with
  | .normal => rec st'
  | x => K x st'
def Ret.u (r : Ret) (j i : Nat) : U := (r.res.getD j []).getD i U0
def Ret.m (r : Ret) (j : Nat) : List (List U) := r.ms.getD j []
/-- Rounds. -/
def rounds (cl : St → St) (F : St → (Ext → St → Option Ret) → Option Ret) : Nat → St → (Ext → St → Option Ret) → Option Ret
  | 0, _, _ => none
  | n + 1, st, K => F st (loopK (fun st' => fSt (cl st') fun st' => rounds cl F n st' K) K)
def firstRegion : Code → Option Nat
  | .region id _ _ => some id
  | .seq a b => match firstRegion a with | some i => some i | none => firstRegion b
  | .block _ b | .loop b => firstRegion b
  | .cond _ a b => match firstRegion a with | some i => some i | none => firstRegion b
  | _ => none
def headHint (E : Env) (body : Code) : Option HintR := match firstRegion body with | some id => E.hint id | none => none
def runC (E : Env) : Code → St → (Ext → St → Option Ret) → Option Ret
  | .skip, st, K => K .normal st
  | .region id ops draw, st, K =>
    if draw then (if isMem E.sig ops.toList then runMem E ops.toList st fun st' => K .normal st' else if drawOK ops.toList then runD E ops.toList ops.toList st fun st' => K .normal (killAll st' ops.toList) else none)
    else runOps E ops.toList ops.toList st fun st' => K .normal st'
  | .seq a b, st, K => runC E a st fun x st' => match x with | .normal => runC E b st' K | x => K x st'
  | .cond c a b, st, K => match ev st c with | .c (.bool z) => bif z then runC E a st K else runC E b st K | _ => none
  | .block id body, st, K => runC E body st fun x st' => match x with | .exit i => if i = id then K .normal st' else K (.exit i) st' | x => K x st'
  | .loop body, st, K => fSt (st.clean (headHint E body)) fun st => E.iter body (fun st => st.clean (headHint E body)) (runC E body) st K
  | .exit id, st, K => K (.exit id) st
  | .ret, st, K => K .ret st
  | _, _, _ => none

/-! ### Functions -/
/-- The cells of a result. -/
def resultCls (T : Tabs) (st : St) (t : TypeId) : ResultVar → Option (List Cl)
  | .tmp x => match st.sl.getD x .no, T.agg t with
    | .c .no, _ => none
    | .c c, false => some [c] | .ag cs, true => some cs | _, _ => none
  | .cell x t' => match st.sl.getD x .no with
    | .bx r 0 => match st.rt[r]? with
      | some (.box _ cs) => if t' = t ∧ (T.row t).d.known ∧ cs.length = T.size t then some cs else none
      | _ => none
    | _ => none
/-- What leaves: its data, the roots that leave with it ('none': a nil slice). -/
def outCls (rt : List Root) (md : RM) (np : Nat) : List CT → List Cl → Option (List U × List (Option Nat))
  | [], [] => some ([], [])
  | .slc e :: ts, x :: xs => match x with
    | .nil => (outCls rt md np ts xs).map fun y => (.lst [] :: y.1, if md = .ro then y.2 else none :: y.2)
    | .rd e' ys => if e = e' ∧ md = .ro then (outCls rt md np ts xs).map fun y => (.lst ys :: y.1, y.2) else none
    | .al r p e' => (match rt[r]? with
      | some (.row e0 deep ys) => if e = e' ∧ np ≤ r then
          (if md = .ro then (outCls rt md np ts xs).map fun y => (.lst (getP ys p) :: y.1, y.2)
          else if p = [] ∧ e0 = e ∧ deep = decide (md = .own) then (outCls rt md np ts xs).map fun y => (.lst ys :: y.1, some r :: y.2) else none)
          else none
      | _ => none)
    | _ => none
  | t :: ts, x :: xs => if ctMatch t x && !t.isSlc then (outCls rt md np ts xs).map fun y => (clU rt x :: y.1, y.2) else none
  | _, _ => none
def outAll (T : Tabs) (st : St) (np : Nat) : List RM → List TypeId → List ResultVar → Option (List (List U) × List (Option Nat))
  | _, [], [] => some ([], [])
  | rm, t :: ts, r :: rs => if isPtr [rm.headD .own] then none else match resultCls T st t r with
    | some cs => match outCls st.rt (rm.headD .own) np (T.ct t) cs, outAll T st np rm.tail ts rs with
      | some a, some b => some (a.1 :: b.1, a.2 ++ b.2)
      | _, _ => none
    | none => none
  | _, _, _ => none
def outMs (rt : List Root) : List (TypeId × Bool) → Nat → Option (List (List (List U)))
  | [], _ => some []
  | (e, d) :: ps, i => match rt[i]?, outMs rt ps (i + 1) with
    | some (.row e' d' xs), some b => if e = e' ∧ d' = d then some (xs :: b) else none
    | _, _ => none
def rootTypes : List Root → List (TypeId × Bool)
  | [] => []
  | .row e d _ :: ps => (e, d) :: rootTypes ps
  | _ :: ps => (0, true) :: rootTypes ps
def retK (T : Tabs) (sg : Sig) (rts : List TypeId) (rvs : List ResultVar) (ps : List (TypeId × Bool)) (st : St) : Option Ret :=
  if isPtr sg.rs then (match sg.rs, rvs, rts with
    | [.ptr e], [.tmp x], [_] => (match st.sl.getD x .no with
      | .po r [] e' 0 0 => (match st.rt[r]?, outMs st.rt ps 0 with
        | some (.row e0 false xs), some ms => if e = e' ∧ e0 = e ∧ ps.length ≤ r then some ⟨[[.lst xs]], ms⟩ else none
        | _, _ => none)
      | _ => none)
    | _, _, _ => none) else
  match outAll T st ps.length sg.rs rts rvs, outMs st.rt ps 0 with
  | some (res, rs), some ms => if nodupB (rs.filterMap id) ∧ (sg.rs.elem .ro = false ∨ rs.isEmpty = true) then some ⟨res, ms⟩ else none
  | _, _ => none
structure Conf where
  T : Tabs
  eqT : TypeId → Bool
  sig : FuncId → Sig
  hint : FuncId → Nat → Option HintR
  prim : FuncId → Option Prim
  asRow : FuncId → Tmp → Bool
def fnsOf (P : Program) (g : FuncId) : Option (List TypeId × List TypeId) := (P.funcs[g]?).map fun f => (f.params.toList, f.resultTypes.toList)
def Conf.env (C : Conf) (P : Program) (den : FuncId → List SV → List Root → Option Ret) (iter : Code → (St → St) → (St → (Ext → St → Option Ret) → Option Ret) → St → (Ext → St → Option Ret) → Option Ret) (g : FuncId) : Env := ⟨C.T, C.eqT, C.sig, fnsOf P, den, iter, C.hint g, C.prim, C.asRow g⟩
/-- What follows a function's code. -/
def Conf.out (C : Conf) (g : FuncId) (rts : List TypeId) (rvs : List ResultVar) (ps : List (TypeId × Bool)) : Ext → St → Option Ret := fun x st => match x with
  | .exit _ => none
  | _ => retK C.T (C.sig g) rts rvs ps st
def Conf.body (C : Conf) (P : Program) (den : FuncId → List SV → List Root → Option Ret) (iter : Code → (St → St) → (St → (Ext → St → Option Ret) → Option Ret) → St → (Ext → St → Option Ret) → Option Ret) (g : FuncId) (svs : List SV) (rts : List Root) : Option Ret :=
  match P.funcs[g]? with
  | some fn => match fn.body with
    | some c => runC (C.env P den iter g) c ⟨svs ++ List.replicate (fn.ntmps - svs.length) .no, rts, rts.length⟩ (C.out g fn.resultTypes.toList fn.results.toList (rootTypes rts))
    | none => none
  | none => none
/-- What a function does to data, with fuel. -/
def Conf.den (C : Conf) (P : Program) : Nat → FuncId → List SV → List Root → Option Ret
  | 0, _, _, _ => none
  | k + 1, g, svs, rts => C.body P (C.den P k) (fun _ cl F => rounds cl F k) g svs rts

abbrev Den := FuncId → List SV → List Root → Option Ret
def codeOf (P : Program) (g : FuncId) : Code := match P.funcs[g]? with | some fn => fn.body.getD .skip | none => .skip
def Conf.outOf (C : Conf) (P : Program) (g : FuncId) (ps : List (TypeId × Bool)) : Ext → St → Option Ret := match P.funcs[g]? with | some fn => C.out g fn.resultTypes.toList fn.results.toList ps | none => fun _ _ => none

/-! ### Places in code, and what follows them -/
def cat : Code → List Nat → Code
  | c, [] => c
  | .seq a b, i :: p => if i = 0 then cat a p else cat b p
  | .cond _ a b, i :: p => if i = 0 then cat a p else cat b p
  | .block _ b, _ :: p => cat b p
  | .loop b, _ :: p => cat b p
  | c, _ => c
/-- 'n': how many rounds the loops that stand around the place may still make, from outside in. -/
def kAt (E : Env) : Code → List Nat → List Nat → (Ext → St → Option Ret) → Ext → St → Option Ret
  | .seq a b, i :: p, ns, K => if i = 0 then kAt E a p ns (fun x st' => match x with | .normal => runC E b st' K | x => K x st') else kAt E b p ns K
  | .cond _ a b, i :: p, ns, K => if i = 0 then kAt E a p ns K else kAt E b p ns K
  | .block id b, _ :: p, ns, K => kAt E b p ns fun x st' => match x with | .exit i => if i = id then K .normal st' else K (.exit i) st' | x => K x st'
  | .loop b, _ :: p, n :: ns, K => kAt E b p ns (loopK (fun st' => fSt (st'.clean (headHint E b)) fun st' => rounds (fun st => st.clean (headHint E b)) (runC E b) n st' K) K)
  | _, _, _, K => K
/-- A loop of a function, with so many rounds left. -/
def Conf.loopAt (C : Conf) (P : Program) (D : Den) (k : Nat) (g : FuncId) (ps : List (TypeId × Bool)) (path : List Nat) (ns : List Nat) (n : Nat) (st : St) : Option Ret :=
  rounds (fun st => st.clean (headHint (C.env P D (fun _ cl F => rounds cl F k) g) (cat (codeOf P g) (path ++ [0])))) (runC (C.env P D (fun _ cl F => rounds cl F k) g) (cat (codeOf P g) (path ++ [0]))) n st (kAt (C.env P D (fun _ cl F => rounds cl F k) g) (codeOf P g) path ns (C.outOf P g ps))
end Go.Proofs.Ytlkcpabdpmenpaa.Eng
/- The evaluator, part 5: how what is known stands to a machine's state. Of no program. -/
namespace Go.Proofs.Ytlkcpabdpmenpaa.Eng
open Go.RowKit
set_option linter.unusedVariables false

/-- Whose each block is; each root's slice; each box's block. -/
structure Gh where
  own : Nat → Option Nat
  v : Nat → Value
  b : Nat → Nat
/-- What stays the same while a function runs: the types; the old blocks that may be read; which blocks are new; so many roots lie behind arguments; their slices; whose old blocks are. -/
structure Ctx where
  T : Tabs
  S : Nat → Prop
  nw : Nat → Prop
  np : Nat
  pv : Nat → Value
  po : Nat → Option Nat
def okb (X : Ctx) (w : World) (g : Gh) (b : Nat) : Prop := g.own b = none ∧ b < w.heap.size ∧ (X.S b ∨ X.nw b)

/-- From a slice along a path: at each step an element's cell. -/
inductive At (T : Tab) (w : World) : CT → U → Value → Path → CT → U → Value → Prop
  | nil (ct : CT) (u : U) (v : Value) : At T w ct u v [] ct u v
  | cons (e : TypeId) (xs : List (List U)) (g q n c i o : Nat) (x : List U) (u1 : U) (ct1 : CT) (v1 : Value) (p : Path) (ct' : CT) (u' : U) (v' : Value) (hx : xs[i]? = some x) (hu : x[o]? = some u1) (hct : (T e)[o]? = some ct1)
      (hc : w.cell? ⟨g, q + (i * (T e).length + o), none⟩ = some v1) (h : At T w ct1 u1 v1 p ct' u' v') : At T w (.slc e) (.lst xs) (.slice (some ⟨g, q, none⟩) n c) ((i, o) :: p) ct' u' v'

theorem At.trans {T : Tab} {w : World} {ct ct1 ct2 : CT} {u u1 u2 : U} {v v1 v2 : Value} {p q : Path} (h : At T w ct u v p ct1 u1 v1) (k : At T w ct1 u1 v1 q ct2 u2 v2) : At T w ct u v (p ++ q) ct2 u2 v2 := by
  induction h with
  | nil => exact k
  | cons e xs g q n c i o x u1 ct1 v1 p ct' u' v' hx hu hct hc h ih => exact .cons e xs g q n c i o x u1 ct1 v1 _ _ _ _ hx hu hct hc (ih k)
theorem getD_of_some {α : Type} {l : List α} {i : Nat} {x d : α} (h : l[i]? = some x) : l.getD i d = x := by
  rw [List.getD_eq_getElem?_getD, h]; rfl
theorem At.nil_inv {T : Tab} {w : World} {ct ct' : CT} {u u' : U} {v v' : Value} (h : At T w ct u v [] ct' u' v') : ct' = ct ∧ u' = u ∧ v' = v := by
  cases h
  exact ⟨rfl, rfl, rfl⟩
theorem At.getP {T : Tab} {w : World} {ct ct' : CT} {u u' : U} {v v' : Value} {p : Path} (h : At T w ct u v p ct' u' v') : ∀ {xs : List (List U)}, u = .lst xs → getP xs p = u'.toLst := by
  induction h with
  | nil ct u v => intro xs h; subst h; rfl
  | cons e xs g q n c i o x u1 ct1 v1 p ct' u' v' hx hu hct hc h ih =>
    intro ys hy
    obtain rfl := U.lst.inj hy
    unfold Eng.getP
    rw [getD_of_some hx, getD_of_some hu]
    cases h with
    | nil => cases u1 <;> rfl
    | cons => exact ih rfl
/-- What an own slice's element's cell is. -/
theorem RepO.step {T : Tab} {w : World} {F : Nat → Prop} {e : TypeId} {xs : List (List U)} {g q n c i o : Nat} {x : List U} {u1 : U} {ct1 : CT} {v1 : Value} (h : RepO T w F (.slc e) (.lst xs) (.slice (some ⟨g, q, none⟩) n c)) (hx : xs[i]? = some x) (hu : x[o]? = some u1) (hct : (T e)[o]? = some ct1)
    (hc : w.cell? ⟨g, q + (i * (T e).length + o), none⟩ = some v1) : ∃ F', (∀ b, F' b → F b) ∧ RepO T w F' ct1 u1 v1 := by
  cases h with
  | row F e xs v cs V lab ho hg hV hs h =>
    have hlt : o < x.length := (List.getElem?_eq_some_iff.1 hu).1
    have h1 := ownsAt_cell ho (hV i o x hx hlt)
    obtain rfl := Option.some.inj (h1.symm.trans hc)
    exact ⟨_, fun b hb => hb.1, h i o x u1 ct1 hx hu hct⟩
theorem RepO.at {T : Tab} {w : World} {ct ct' : CT} {u u' : U} {v v' : Value} {p : Path} (h : At T w ct u v p ct' u' v') : ∀ {F : Nat → Prop}, RepO T w F ct u v → ∃ F', (∀ b, F' b → F b) ∧ RepO T w F' ct' u' v' := by
  induction h with
  | nil ct u v => exact fun h => ⟨_, fun _ hb => hb, h⟩
  | cons e xs g q n c i o x u1 ct1 v1 p ct' u' v' hx hu hct hc h ih =>
    intro F hF
    obtain ⟨F1, h1, h2⟩ := hF.step hx hu hct hc
    obtain ⟨F2, h3, h4⟩ := ih h2
    exact ⟨F2, fun b hb => h1 b (h3 b hb), h4⟩
theorem At.frame {T : Tab} {w w' : World} {ct ct' : CT} {u u' : U} {v v' : Value} {p : Path} (h : At T w ct u v p ct' u' v') : ∀ {F : Nat → Prop}, RepO T w F ct u v → (∀ b, F b → w'.heap[b]? = w.heap[b]?) → At T w' ct u v p ct' u' v' := by
  induction h with
  | nil ct u v => exact fun _ _ => .nil _ _ _
  | cons e xs g q n c i o x u1 ct1 v1 p ct' u' v' hx hu hct hc h ih =>
    intro F hF hw
    obtain ⟨F1, h1, h2⟩ := hF.step hx hu hct hc
    have hg : F g := by
      cases hF with
      | row F e xs v cs V lab ho hg hV hs h => exact (hg g rfl).1
    exact .cons e xs g q n c i o x u1 ct1 v1 p _ _ _ hx hu hct ((cell?_of_heap (hw g hg) _).trans hc) (ih h2 fun b hb => hw b (h1 b hb))

/-- A cell. -/
def ClR (X : Ctx) (w : World) (rt : List Root) (g : Gh) : Cl → Value → Prop
  | .int k n, v => v = .int k n
  | .bool b, v => v = .bool b
  | .str s, v => v = .string s
  | .rd e xs, v => RepR X.T.ct w (okb X w g) (.slc e) (.lst xs) v
  | .nil, v => v = .slice none 0 0
  | .al r p e, v => ∃ e0 d xs, rt[r]? = some (.row e0 d xs) ∧ (p = [] ∨ d = true) ∧ At X.T.ct w (.slc e0) (.lst xs) (g.v r) p (.slc e) (.lst (getP xs p)) v
  | .no, v => v.oneCell' = true
def ClsR (X : Ctx) (w : World) (rt : List Root) (g : Gh) : List Cl → List Value → Prop
  | [], [] => True
  | x :: xs, v :: vs => ClR X w rt g x v ∧ ClsR X w rt g xs vs
  | _, _ => False
/-- A row of cells that is read. -/
def PrR (X : Ctx) (w : World) (g : Gh) (e : TypeId) (us : List U) (o : Nat) (v : Value) : Prop :=
  ∃ b off, v = .pointer (some ⟨b, off + o, none⟩) ∧ okb X w g b ∧ us.length = (X.T.ct e).length ∧
    ∀ j u ct, us[j]? = some u → (X.T.ct e)[j]? = some ct → ∃ x, w.cell? ⟨b, off + j, none⟩ = some x ∧ RepR X.T.ct w (okb X w g) ct u x
def BxR (rt : List Root) (g : Gh) (r o : Nat) (v : Value) : Prop := v = .pointer (some ⟨g.b r, o, none⟩) ∧ ∃ t cs, rt[r]? = some (.box t cs)
def CapR (X : Ctx) (w : World) (rt : List Root) (g : Gh) : Cap → Value → Prop
  | .c x, v => ClR X w rt g x v
  | .bx r o, v => BxR rt g r o v
  | .pr e us o, v => PrR X w g e us o v
def CapsR (X : Ctx) (w : World) (rt : List Root) (g : Gh) : List Cap → List Value → Prop
  | [], [] => True
  | x :: xs, v :: vs => CapR X w rt g x v ∧ CapsR X w rt g xs vs
  | _, _ => False
def TupR (X : Ctx) (w : World) (rt : List Root) (g : Gh) : List (Bool × List Cl) → List Value → Prop
  | [], [] => True
  | (true, xs) :: ys, v :: vs => (∃ cs, v = .agg cs ∧ ClsR X w rt g xs cs.toList) ∧ TupR X w rt g ys vs
  | (false, [x]) :: ys, v :: vs => ClR X w rt g x v ∧ TupR X w rt g ys vs
  | (false, _) :: ys, v :: vs => TupR X w rt g ys vs
  | _, _ => False
def SVR (X : Ctx) (w : World) (rt : List Root) (g : Gh) : SV → Value → Prop
  | .c .no, _ => True
  | .c x, v => ClR X w rt g x v
  | .ag xs, v => ∃ cs, v = .agg cs ∧ ClsR X w rt g xs cs.toList
  | .bx r o, v => BxR rt g r o v
  | .pr e us o, v => PrR X w g e us o v
  | .po r p e i o, v => ∃ e0 d xs b q n c, rt[r]? = some (.row e0 d xs) ∧ (p = [] ∨ d = true) ∧ At X.T.ct w (.slc e0) (.lst xs) (g.v r) p (.slc e) (.lst (getP xs p)) (.slice (some ⟨b, q, none⟩) n c) ∧ i < (getP xs p).length ∧ v = .pointer (some ⟨b, q + (i * X.T.size e + o), none⟩)
  | .fn f caps, v => ∃ vs, v = .func (.func f) #[] vs ∧ CapsR X w rt g caps vs.toList
  | .tup xs, v => ∃ vs, v = .tuple vs ∧ TupR X w rt g xs vs.toList
  | .ud, v => v = undef
def RootR (X : Ctx) (w : World) (rt : List Root) (g : Gh) (r : Nat) : Root → Prop
  | .box t cs => ∃ vs : Array Value, w.heap[g.b r]? = some (.cells vs t (0, 0)) ∧ g.own (g.b r) = some r ∧ ClsR X w rt g cs vs.toList
  | .row e true xs => RepO X.T.ct w (fun b => g.own b = some r) (.slc e) (.lst xs) (g.v r)
  | .row e false xs => RepS X.T.ct w (fun b => g.own b = some r) (okb X w g) e xs (g.v r)
  | .gone => True
/-- What the world was at the call, and is. -/
structure Fr (own0 : Nat → Option Nat) (w0 w : World) (g : Gh) : Prop where
  os : w.os = w0.os
  tape : w.tape = w0.tape
  output : w.output = w0.output
  size : w0.heap.size ≤ w.heap.size
  block : ∀ b, b < w0.heap.size → own0 b = none → g.own b = none ∧ w.heap[b]? = w0.heap[b]?
structure Mem (X : Ctx) (st : St) (w : World) (g : Gh) : Prop where
  rt : ∀ r x, st.rt[r]? = some x → RootR X w st.rt g r x
  lt : ∀ b, g.own b ≠ none → b < w.heap.size
  ob : ∀ b r, g.own b = some r → r < st.rt.length
  n0 : ∀ b, w.heap.size ≤ b → X.nw b
  np : st.np = X.np
  nl : X.np ≤ st.rt.length
  pm : ∀ b r, g.own b = some r → X.nw b ∨ (r < X.np ∧ X.po b = some r)
  pv : ∀ r, r < X.np → g.v r = X.pv r
theorem Mem.nle {X : Ctx} {st : St} {w : World} {g : Gh} (h : Mem X st w g) {n : Nat} (hs : w.heap.size ≤ n) : ∀ b, n ≤ b → X.nw b := fun b hb => h.n0 b (Nat.le_trans hs hb)
structure Rel (X : Ctx) (own0 : Nat → Option Nat) (w0 : World) (st : St) (a : Act) (w : World) (g : Gh) : Prop where
  mem : Mem X st w g
  sz : st.sl.length ≤ a.tmps.size
  sl : ∀ i sv, st.sl[i]? = some sv → SVR X w st.rt g sv (a.tmps.getD i undef)
  df : a.defers = []
  fr : Fr own0 w0 w g

theorem ClsR.length {X : Ctx} {w : World} {rt : List Root} {g : Gh} : ∀ {xs : List Cl} {vs : List Value}, ClsR X w rt g xs vs → xs.length = vs.length
  | [], [], _ => rfl
  | _ :: _, _ :: _, h => by simp [ClsR.length h.2]
  | [], _ :: _, h => h.elim
  | _ :: _, [], h => h.elim
theorem ClsR.get {X : Ctx} {w : World} {rt : List Root} {g : Gh} : ∀ {xs : List Cl} {vs : List Value}, ClsR X w rt g xs vs → ∀ {i : Nat} {x : Cl}, xs[i]? = some x → ∃ v, vs[i]? = some v ∧ ClR X w rt g x v
  | [], [], _, i, x, hx => by simp at hx
  | y :: ys, v :: vs, h, 0, x, hx => by simp at hx; subst hx; exact ⟨v, by simp, h.1⟩
  | y :: ys, v :: vs, h, i + 1, x, hx => by
    obtain ⟨u, h1, h2⟩ := ClsR.get h.2 (i := i) (x := x) (by simpa using hx)
    exact ⟨u, by simpa using h1, h2⟩
  | [], _ :: _, h, _, _, _ => h.elim
  | _ :: _, [], h, _, _, _ => h.elim
theorem ClsR.drop {X : Ctx} {w : World} {rt : List Root} {g : Gh} : ∀ {xs : List Cl} {vs : List Value}, ClsR X w rt g xs vs → ∀ n, ClsR X w rt g (xs.drop n) (vs.drop n)
  | xs, vs, h, 0 => h
  | [], [], _, n + 1 => trivial
  | y :: ys, v :: vs, h, n + 1 => ClsR.drop h.2 n
  | [], _ :: _, h, _ + 1 => h.elim
  | _ :: _, [], h, _ + 1 => h.elim
theorem ClsR.take {X : Ctx} {w : World} {rt : List Root} {g : Gh} : ∀ {xs : List Cl} {vs : List Value}, ClsR X w rt g xs vs → ∀ n, ClsR X w rt g (xs.take n) (vs.take n)
  | xs, vs, h, 0 => by simp [ClsR]
  | [], [], _, n + 1 => trivial
  | y :: ys, v :: vs, h, n + 1 => ⟨h.1, ClsR.take h.2 n⟩
  | [], _ :: _, h, _ + 1 => h.elim
  | _ :: _, [], h, _ + 1 => h.elim
theorem ClsR.set {X : Ctx} {w : World} {rt : List Root} {g : Gh} : ∀ {xs : List Cl} {vs : List Value}, ClsR X w rt g xs vs → ∀ {i x v}, ClR X w rt g x v → ClsR X w rt g (xs.set i x) (vs.set i v)
  | [], [], _, i, x, v, _ => trivial
  | y :: ys, u :: us, h, 0, x, v, hx => ⟨hx, h.2⟩
  | y :: ys, u :: us, h, i + 1, x, v, hx => ⟨h.1, ClsR.set h.2 hx⟩
  | [], _ :: _, h, _, _, _, _ => h.elim
  | _ :: _, [], h, _, _, _, _ => h.elim
theorem ClsR.append {X : Ctx} {w : World} {rt : List Root} {g : Gh} : ∀ {xs ys : List Cl} {vs us : List Value}, ClsR X w rt g xs vs → ClsR X w rt g ys us → ClsR X w rt g (xs ++ ys) (vs ++ us)
  | [], _, [], _, _, k => k
  | y :: ys, _, u :: us, _, h, k => ⟨h.1, ClsR.append h.2 k⟩
  | [], _, _ :: _, _, h, _ => h.elim
  | _ :: _, _, [], _, h, _ => h.elim
theorem ClsR.ofGet {X : Ctx} {w : World} {rt : List Root} {g : Gh} : ∀ {xs : List Cl} {vs : List Value}, xs.length = vs.length → (∀ (i : Nat) (x : Cl) (v : Value), xs[i]? = some x → vs[i]? = some v → ClR X w rt g x v) → ClsR X w rt g xs vs
  | [], [], _, _ => trivial
  | x :: xs, v :: vs, hl, h => ⟨h 0 x v rfl rfl, ClsR.ofGet (by simpa using hl) fun i x v hx hv => h (i + 1) x v (by simpa using hx) (by simpa using hv)⟩
  | [], _ :: _, hl, _ => by simp at hl
  | _ :: _, [], hl, _ => by simp at hl
theorem RepR.one {T : Tab} {w : World} {okb : Nat → Prop} {ct : CT} {u : U} {v : Value} (h : RepR T w okb ct u v) : v.oneCell' = true := by cases h <;> rfl
theorem RepO.one {T : Tab} {w : World} {F : Nat → Prop} {ct : CT} {u : U} {v : Value} (h : RepO T w F ct u v) : v.oneCell' = true := by
  cases h with
  | row _ _ _ _ _ _ _ ho => obtain ⟨A, c, rfl, _⟩ := ownsAt_slice ho; rfl
  | _ => rfl
theorem At.one {T : Tab} {w : World} {e e0 : TypeId} {u u' : U} {v v' : Value} {p : Path} (h : At T w (.slc e0) u v p (.slc e) u' v') (h0 : v.oneCell' = true) {F : Nat → Prop} (hF : p = [] ∨ RepO T w F (.slc e0) u v) : v'.oneCell' = true := by
  rcases hF with rfl | hF
  · obtain ⟨-, -, rfl⟩ := h.nil_inv; exact h0
  · obtain ⟨F', _, h2⟩ := RepO.at h hF
    exact h2.one
theorem RootR.row_one {X : Ctx} {w : World} {rt : List Root} {g : Gh} {r : Nat} {e : TypeId} {d : Bool} {xs : List (List U)} (h : RootR X w rt g r (.row e d xs)) : (g.v r).oneCell' = true := by
  cases d with
  | true => exact RepO.one h
  | false => obtain ⟨cs, V, ho, _⟩ := RepS.ex h; obtain ⟨A, c, hv, _⟩ := ownsAt_slice ho; rw [hv]; rfl
theorem ClR.one {X : Ctx} {st : St} {w : World} {g : Gh} (hm : Mem X st w g) {x : Cl} {v : Value} (h : ClR X w st.rt g x v) : v.oneCell' = true := by
  cases x with
  | al r p e =>
    obtain ⟨e0, d, xs, h1, h2, h3⟩ := h
    have hr := hm.rt r _ h1
    rcases h2 with rfl | rfl
    · obtain ⟨-, -, rfl⟩ := h3.nil_inv; exact hr.row_one
    · exact h3.one (F := fun b => g.own b = some r) hr.row_one (.inr hr)
  | rd e xs => exact RepR.one h
  | no => exact h
  | _ => subst h; rfl
/-- What is at an alias. -/
theorem ClR.al_repr {X : Ctx} {st : St} {w : World} {g : Gh} (hm : Mem X st w g) {r : Nat} {p : Path} {e : TypeId} {v : Value} (h : ClR X w st.rt g (.al r p e) v) : ∃ e0 d xs, st.rt[r]? = some (.row e0 d xs) ∧
    ∀ ok : Nat → Prop, (∀ b, g.own b = some r → ok b) → (∀ b, okb X w g b → ok b) → RepR X.T.ct w ok (.slc e) (.lst (getP xs p)) v := by
  obtain ⟨e0, d, xs, h1, h2, h3⟩ := h
  refine ⟨e0, d, xs, h1, fun ok ho hk => ?_⟩
  have hr := hm.rt r _ h1
  cases d with
  | true =>
    obtain ⟨F', h4, h5⟩ := RepO.at h3 hr
    exact h5.toR fun b hb => ho b (h4 b hb)
  | false =>
    obtain rfl : p = [] := by simpa using h2
    obtain ⟨h4, h5, rfl⟩ := h3.nil_inv
    obtain rfl := CT.slc.inj h4
    exact RepS.toR hr ho hk
end Go.Proofs.Ytlkcpabdpmenpaa.Eng
/- The evaluator, part 6: what stays known while memory changes. Of no program. -/
namespace Go.Proofs.Ytlkcpabdpmenpaa.Eng
open Go.RowKit
set_option linter.unusedVariables false

/-- From one state of memory to another: roots of R may have changed; the slices at the roots of B have not moved. -/
structure Keep (X : Ctx) (R B : Nat → Prop) (w : World) (g : Gh) (rt : List Root) (w' : World) (g' : Gh) (rt' : List Root) : Prop where
  rd : ∀ b, okb X w g b → okb X w' g' b ∧ w'.heap[b]? = w.heap[b]?
  ow : ∀ b r, ¬ R r → g.own b = some r → g'.own b = some r ∧ w'.heap[b]? = w.heap[b]?
  vv : ∀ r, r < rt.length → ¬ R r → g'.v r = g.v r
  row : ∀ (r : Nat) e d xs, ¬ R r → rt[r]? = some (.row e d xs) → rt'[r]? = some (.row e d xs)
  box : ∀ (r : Nat) t cs, rt[r]? = some (.box t cs) → g'.b r = g.b r ∧ ∃ cs', rt'[r]? = some (.box t cs')
  base : ∀ r, B r → g'.v r = g.v r ∧ ∀ e d xs, rt[r]? = some (.row e d xs) → ∃ d' xs', rt'[r]? = some (.row e d' xs') ∧ xs'.length = xs.length

def IsRow (rt : List Root) (r : Nat) : Prop := ∃ e d xs, rt[r]? = some (.row e d xs)
def Cl.avd (R B : Nat → Prop) (rt : List Root) : Cl → Prop
  | .al r p _ => IsRow rt r → ¬ R r ∨ (B r ∧ p = []) | _ => True
def Cap.avd (R B : Nat → Prop) (rt : List Root) : Cap → Prop | .c x => x.avd R B rt | _ => True
def SV.avd (R B : Nat → Prop) (rt : List Root) : SV → Prop
  | .c x => x.avd R B rt | .ag xs => ∀ x ∈ xs, Cl.avd R B rt x | .po r p .. => IsRow rt r → ¬ R r ∨ (B r ∧ p = []) | .fn _ caps => ∀ x ∈ caps, Cap.avd R B rt x | .tup vs => ∀ x ∈ vs, ∀ y ∈ x.2, Cl.avd R B rt y | _ => True
def Root.avd (R B : Nat → Prop) (rt : List Root) : Root → Prop | .box _ cs => ∀ x ∈ cs, Cl.avd R B rt x | _ => True

section
variable {X : Ctx} {R B : Nat → Prop} {st : St} {w w' : World} {g g' : Gh} {rt' : List Root}
theorem lt_of_some {α : Type} {l : List α} {i : Nat} {x : α} (h : l[i]? = some x) : i < l.length := (List.getElem?_eq_some_iff.1 h).1

theorem ClR.keep (hm : Mem X st w g) (hK : Keep X R B w g st.rt w' g' rt') {x : Cl} {v : Value} (ha : x.avd R B st.rt) (h : ClR X w st.rt g x v) : ClR X w' rt' g' x v := by
  cases x with
  | rd e xs => exact RepR.imp h hK.rd
  | al r p e =>
    obtain ⟨e0, d, xs, h1, h2, h3⟩ := h
    rcases ha ⟨_, _, _, h1⟩ with ha | ⟨hb, rfl⟩
    · have hv := hK.vv r (lt_of_some h1) ha
      refine ⟨e0, d, xs, hK.row r _ _ _ ha h1, h2, ?_⟩
      rw [hv]
      rcases h2 with rfl | rfl
      · obtain ⟨h4, h5, h6⟩ := h3.nil_inv
        rw [h4, h5, h6]; exact .nil _ _ _
      · exact h3.frame (F := fun b => g.own b = some r) (hm.rt r _ h1) fun b hb => (hK.ow b r ha hb).2
    · obtain ⟨hv, hr⟩ := hK.base r hb
      obtain ⟨d', xs', h7, -⟩ := hr _ _ _ h1
      obtain ⟨h4, h5, h6⟩ := h3.nil_inv
      refine ⟨e0, d', xs', h7, .inl rfl, ?_⟩
      rw [hv, h4, h6]; exact .nil _ _ _
  | _ => exact h
theorem PrR.keep (hK : Keep X R B w g st.rt w' g' rt') {e : TypeId} {us : List U} {o : Nat} {v : Value} (h : PrR X w g e us o v) : PrR X w' g' e us o v := by
  obtain ⟨b, off, h1, h2, h3, h4⟩ := h
  refine ⟨b, off, h1, (hK.rd b h2).1, h3, fun j u ct hu hct => ?_⟩
  obtain ⟨x, h5, h6⟩ := h4 j u ct hu hct
  exact ⟨x, (cell?_of_heap (hK.rd b h2).2 _).trans h5, h6.imp hK.rd⟩
theorem BxR.keep (hK : Keep X R B w g st.rt w' g' rt') {r o : Nat} {v : Value} (h : BxR st.rt g r o v) : BxR rt' g' r o v := by
  obtain ⟨h1, t, cs, h2⟩ := h
  obtain ⟨h3, cs', h4⟩ := hK.box r t cs h2
  exact ⟨by rw [h3]; exact h1, t, cs', h4⟩
theorem ClsR.keep (hm : Mem X st w g) (hK : Keep X R B w g st.rt w' g' rt') : ∀ {xs : List Cl} {vs : List Value}, (∀ x ∈ xs, Cl.avd R B st.rt x) → ClsR X w st.rt g xs vs → ClsR X w' rt' g' xs vs
  | [], [], _, _ => trivial
  | x :: xs, v :: vs, ha, h => ⟨ClR.keep hm hK (ha x (by simp)) h.1, ClsR.keep hm hK (fun y hy => ha y (by simp [hy])) h.2⟩
  | [], _ :: _, _, h => h.elim
  | _ :: _, [], _, h => h.elim
theorem CapR.keep (hm : Mem X st w g) (hK : Keep X R B w g st.rt w' g' rt') {x : Cap} {v : Value} (ha : x.avd R B st.rt) (h : CapR X w st.rt g x v) : CapR X w' rt' g' x v := by
  cases x with
  | c x => exact ClR.keep hm hK ha h
  | bx r o => exact BxR.keep hK h
  | pr e us o => exact PrR.keep hK h
theorem CapsR.keep (hm : Mem X st w g) (hK : Keep X R B w g st.rt w' g' rt') : ∀ {xs : List Cap} {vs : List Value}, (∀ x ∈ xs, Cap.avd R B st.rt x) → CapsR X w st.rt g xs vs → CapsR X w' rt' g' xs vs
  | [], [], _, _ => trivial
  | x :: xs, v :: vs, ha, h => ⟨CapR.keep hm hK (ha x (by simp)) h.1, CapsR.keep hm hK (fun y hy => ha y (by simp [hy])) h.2⟩
  | [], _ :: _, _, h => h.elim
  | _ :: _, [], _, h => h.elim
theorem TupR.keep (hm : Mem X st w g) (hK : Keep X R B w g st.rt w' g' rt') : ∀ {xs : List (Bool × List Cl)} {vs : List Value}, (∀ x ∈ xs, ∀ y ∈ x.2, Cl.avd R B st.rt y) → TupR X w st.rt g xs vs → TupR X w' rt' g' xs vs
  | [], [], _, _ => trivial
  | (true, xs) :: ys, v :: vs, ha, h => by
    obtain ⟨⟨cs, h1, h2⟩, h3⟩ := h
    exact ⟨⟨cs, h1, ClsR.keep hm hK (ha (true, xs) (by simp)) h2⟩, TupR.keep hm hK (fun y hy => ha y (by simp [hy])) h3⟩
  | (false, [x]) :: ys, v :: vs, ha, h => ⟨ClR.keep hm hK (ha (false, [x]) (by simp) x (by simp)) h.1, TupR.keep hm hK (fun y hy => ha y (by simp [hy])) h.2⟩
  | (false, []) :: ys, v :: vs, ha, h => TupR.keep (xs := ys) hm hK (fun y hy => ha y (by simp [hy])) h
  | (false, x :: y :: zs) :: ys, v :: vs, ha, h => TupR.keep (xs := ys) hm hK (fun y hy => ha y (by simp [hy])) h
  | [], _ :: _, _, h => h.elim
  | (true, _) :: _, [], _, h => h.elim
  | (false, []) :: _, [], _, h => h.elim
  | (false, [_]) :: _, [], _, h => h.elim
  | (false, _ :: _ :: _) :: _, [], _, h => h.elim
theorem SVR.keep (hm : Mem X st w g) (hK : Keep X R B w g st.rt w' g' rt') {x : SV} {v : Value} (ha : x.avd R B st.rt) (h : SVR X w st.rt g x v) : SVR X w' rt' g' x v := by
  cases x with
  | c x =>
    have ha : x.avd R B st.rt := ha
    cases x <;> first | exact trivial | exact ClR.keep hm hK ha h
  | ag xs => obtain ⟨cs, h1, h2⟩ := h; exact ⟨cs, h1, ClsR.keep hm hK ha h2⟩
  | bx r o => exact BxR.keep hK h
  | pr e us o => exact PrR.keep hK h
  | po r p e i o =>
    obtain ⟨e0, d, xs, b, q, n, c, h1, h2, h3, h4, h5⟩ := h
    rcases ha ⟨_, _, _, h1⟩ with ha | ⟨hb, rfl⟩
    · have hv := hK.vv r (lt_of_some h1) ha
      refine ⟨e0, d, xs, b, q, n, c, hK.row r _ _ _ ha h1, h2, ?_, h4, h5⟩
      rw [hv]
      rcases h2 with rfl | rfl
      · obtain ⟨h6, h7, h8⟩ := h3.nil_inv
        rw [h6, h7, h8]; exact .nil _ _ _
      · exact h3.frame (F := fun b => g.own b = some r) (hm.rt r _ h1) fun b hb => (hK.ow b r ha hb).2
    · obtain ⟨hv, hr⟩ := hK.base r hb
      obtain ⟨d', xs', h7, h8⟩ := hr _ _ _ h1
      obtain ⟨h9, h10, h11⟩ := h3.nil_inv
      refine ⟨e0, d', xs', b, q, n, c, h7, .inl rfl, ?_, by show i < xs'.length; rw [h8]; exact h4, h5⟩
      rw [hv, h9, h11]; exact .nil _ _ _
  | fn f caps => obtain ⟨vs, h1, h2⟩ := h; exact ⟨vs, h1, CapsR.keep hm hK ha h2⟩
  | tup xs => obtain ⟨vs, h1, h2⟩ := h; exact ⟨vs, h1, TupR.keep hm hK ha h2⟩
  | ud => exact h
theorem RootR.keep (hm : Mem X st w g) (hK : Keep X R B w g st.rt w' g' rt') {r : Nat} {x : Root} (hx : st.rt[r]? = some x) (hr : ¬ R r) (ha : x.avd R B st.rt) : RootR X w' rt' g' r x := by
  have h := hm.rt r x hx
  cases x with
  | box t cs =>
    obtain ⟨vs, h1, h2, h3⟩ := h
    have hb := (hK.box r t cs hx).1
    exact ⟨vs, by rw [hb, (hK.ow _ r hr h2).2]; exact h1, by rw [hb]; exact (hK.ow _ r hr h2).1, ClsR.keep hm hK ha h3⟩
  | row e d xs =>
    have hv := hK.vv r (lt_of_some hx) hr
    cases d with
    | true =>
      show RepO _ _ _ _ _ (g'.v r)
      rw [hv]
      exact RepO.imp h fun b hb => hK.ow b r hr hb
    | false =>
      show RepS _ _ _ _ _ _ (g'.v r)
      rw [hv]
      exact RepS.imp h (fun b hb => hK.ow b r hr hb) hK.rd
  | gone => trivial
end

/-! ### Purging -/
section
variable {X : Ctx} {st : St} {w w' : World} {g g' : Gh} {rt0 : List Root}
/-- Of Q nothing is known. -/
def Cl.free (Q : Nat → Prop) : Cl → Prop | .al r _ _ => ¬ Q r | _ => True
def Cap.free (Q : Nat → Prop) : Cap → Prop | .c x => x.free Q | _ => True
def SV.free (Q : Nat → Prop) : SV → Prop
  | .c x => x.free Q | .ag xs => ∀ x ∈ xs, Cl.free Q x | .po r .. => ¬ Q r | .fn _ caps => ∀ x ∈ caps, Cap.free Q x | .tup vs => ∀ x ∈ vs, ∀ y ∈ x.2, Cl.free Q y | _ => True
def Root.free (Q : Nat → Prop) : Root → Prop | .box _ cs => ∀ x ∈ cs, Cl.free Q x | _ => True
def St.free (Q : Nat → Prop) (st : St) : Prop := (∀ x ∈ st.sl, SV.free Q x) ∧ ∀ x ∈ st.rt, Root.free Q x
/-- A predicate on cells, on everything that holds cells. -/
theorem Cl.purge_free {Q : Nat → Prop} {r : Nat} {keep : Bool} {x : Cl} (h : x.free Q) : (x.purge r keep).free Q := by
  cases x <;> try exact h
  simp only [Cl.purge]
  split
  · split
    · exact h
    · trivial
  · exact h
theorem Cl.purge_avd {Q : Nat → Prop} {r : Nat} {keep : Bool} {x : Cl} (h : x.free Q) : (x.purge r keep).avd (fun s => s = r ∨ Q s) (fun s => s = r ∧ keep = true) rt0 := by
  cases x <;> try trivial
  rename_i r' p e
  simp only [Cl.purge]
  split
  · rename_i hr
    split
    · rename_i hk
      simp only [Bool.and_eq_true, List.isEmpty_iff] at hk
      exact fun _ => .inr ⟨⟨hr, hk.1⟩, hk.2⟩
    · trivial
  · rename_i hr
    exact fun _ => .inl fun hh => hh.elim hr h
theorem SV.purge_avd {Q : Nat → Prop} {r : Nat} {keep : Bool} {x : SV} (h : x.free Q) : (x.purge r keep).avd (fun s => s = r ∨ Q s) (fun s => s = r ∧ keep = true) rt0 := by
  cases x with
  | c x => exact Cl.purge_avd h
  | ag xs => intro y hy; obtain ⟨x, hx, rfl⟩ := List.mem_map.1 hy; exact Cl.purge_avd (h x hx)
  | po r' p e i o =>
    simp only [SV.purge]
    split
    · rename_i hr
      split
      · rename_i hk
        simp only [Bool.and_eq_true, List.isEmpty_iff] at hk
        exact fun _ => .inr ⟨⟨hr, hk.1⟩, hk.2⟩
      · trivial
    · rename_i hr; exact fun _ => .inl fun hh => hh.elim hr h
  | fn f caps =>
    intro y hy
    obtain ⟨x, hx, rfl⟩ := List.mem_map.1 hy
    cases x with
    | c x => exact Cl.purge_avd (h _ hx)
    | _ => trivial
  | tup vs =>
    intro y hy z hz
    obtain ⟨x, hx, rfl⟩ := List.mem_map.1 hy
    obtain ⟨u, hu, rfl⟩ := List.mem_map.1 hz
    exact Cl.purge_avd (h x hx u hu)
  | _ => trivial
theorem Root.purge_avd {Q : Nat → Prop} {r : Nat} {keep : Bool} {x : Root} (h : x.free Q) : (x.purge r keep).avd (fun s => s = r ∨ Q s) (fun s => s = r ∧ keep = true) rt0 := by
  cases x with
  | box t cs => intro y hy; obtain ⟨x, hx, rfl⟩ := List.mem_map.1 hy; exact Cl.purge_avd (h x hx)
  | _ => trivial
theorem Cl.purge_self {r : Nat} {x : Cl} : (x.purge r false).free (fun s => s = r) := by
  cases x <;> try trivial
  simp only [Cl.purge]
  split
  · simp [Cl.free]
  · rename_i hr; exact hr
theorem SV.purge_free {Q : Nat → Prop} {r : Nat} {keep : Bool} {x : SV} (h : x.free Q) : (x.purge r keep).free Q := by
  cases x with
  | c x => exact Cl.purge_free h
  | ag xs => intro y hy; obtain ⟨x, hx, rfl⟩ := List.mem_map.1 hy; exact Cl.purge_free (h x hx)
  | po r' p e i o =>
    simp only [SV.purge]
    split
    · split
      · exact h
      · trivial
    · exact h
  | fn f caps =>
    intro y hy
    obtain ⟨x, hx, rfl⟩ := List.mem_map.1 hy
    cases x with
    | c x => exact Cl.purge_free (h _ hx)
    | _ => trivial
  | tup vs =>
    intro y hy z hz
    obtain ⟨x, hx, rfl⟩ := List.mem_map.1 hy
    obtain ⟨u, hu, rfl⟩ := List.mem_map.1 hz
    exact Cl.purge_free (h x hx u hu)
  | _ => exact h
theorem SV.purge_self {r : Nat} {x : SV} : (x.purge r false).free (fun s => s = r) := by
  cases x with
  | c x => exact Cl.purge_self
  | ag xs => intro y hy; obtain ⟨x, hx, rfl⟩ := List.mem_map.1 hy; exact Cl.purge_self
  | po r' p e i o =>
    simp only [SV.purge, Bool.false_and, Bool.false_eq_true, if_false]
    split
    · trivial
    · rename_i hr; exact hr
  | fn f caps =>
    intro y hy
    obtain ⟨x, hx, rfl⟩ := List.mem_map.1 hy
    cases x with
    | c x => exact Cl.purge_self
    | _ => trivial
  | tup vs =>
    intro y hy z hz
    obtain ⟨x, hx, rfl⟩ := List.mem_map.1 hy
    obtain ⟨u, hu, rfl⟩ := List.mem_map.1 hz
    exact Cl.purge_self
  | _ => trivial
theorem St.purge_free {Q : Nat → Prop} {r : Nat} {keep : Bool} {st : St} (h : st.free Q) : (st.purge r keep).free Q := by
  refine ⟨fun x hx => ?_, fun x hx => ?_⟩
  · obtain ⟨y, hy, rfl⟩ := List.mem_map.1 hx; exact SV.purge_free (h.1 y hy)
  · obtain ⟨y, hy, rfl⟩ := List.mem_map.1 hx
    cases y with
    | box t cs => intro z hz; obtain ⟨u, hu, rfl⟩ := List.mem_map.1 hz; exact Cl.purge_free (h.2 _ hy u hu)
    | _ => trivial
theorem St.purge_self {r : Nat} {st : St} : (st.purge r false).free (fun s => s = r) := by
  refine ⟨fun x hx => ?_, fun x hx => ?_⟩
  · obtain ⟨y, hy, rfl⟩ := List.mem_map.1 hx; exact SV.purge_self
  · obtain ⟨y, hy, rfl⟩ := List.mem_map.1 hx
    cases y with
    | box t cs => intro z hz; obtain ⟨u, hu, rfl⟩ := List.mem_map.1 hz; exact Cl.purge_self
    | _ => trivial
theorem Cl.free_or {Q Q' : Nat → Prop} {x : Cl} (h : x.free Q) (h' : x.free Q') : x.free (fun s => Q s ∨ Q' s) := by
  cases x <;> try trivial
  exact fun hh => hh.elim h h'
theorem SV.free_or {Q Q' : Nat → Prop} {x : SV} (h : x.free Q) (h' : x.free Q') : x.free (fun s => Q s ∨ Q' s) := by
  cases x with
  | c x => exact Cl.free_or h h'
  | ag xs => exact fun y hy => Cl.free_or (h y hy) (h' y hy)
  | po r' p e i o => exact fun hh => hh.elim h h'
  | fn f caps =>
    intro y hy
    cases y with
    | c x => exact Cl.free_or (h _ hy) (h' _ hy)
    | _ => trivial
  | tup vs => exact fun y hy z hz => Cl.free_or (h y hy z hz) (h' y hy z hz)
  | _ => trivial
theorem St.free_or {Q Q' : Nat → Prop} {st : St} (h : st.free Q) (h' : st.free Q') : st.free (fun s => Q s ∨ Q' s) := by
  refine ⟨fun x hx => SV.free_or (h.1 x hx) (h'.1 x hx), fun x hx => ?_⟩
  cases x with
  | box t cs => exact fun y hy => Cl.free_or (h.2 _ hx y hy) (h'.2 _ hx y hy)
  | _ => trivial
theorem SV.free_false (x : SV) : x.free (fun _ => False) := by
  cases x with
  | c x => cases x <;> simp [SV.free, Cl.free]
  | ag xs => intro y _; cases y <;> simp [Cl.free]
  | po => exact id
  | fn f caps => intro y _; rcases y with y | _ | _ <;> try trivial
                 cases y <;> simp [Cap.free, Cl.free]
  | tup vs => intro y _ z _; cases z <;> simp [Cl.free]
  | _ => trivial
theorem St.free_false (st : St) : st.free (fun _ => False) := by
  refine ⟨fun x _ => SV.free_false x, fun x _ => ?_⟩
  cases x with
  | box t cs => intro y _; cases y <;> simp [Cl.free]
  | _ => trivial

theorem ClR.purge (hm : Mem X st w g) {r : Nat} {keep : Bool} {x : Cl} {v : Value} (h : ClR X w st.rt g x v) : ClR X w st.rt g (x.purge r keep) v := by
  cases x <;> try exact h
  rename_i r' p e
  simp only [Cl.purge]
  split
  · split
    · exact h
    · exact h.one hm
  · exact h
theorem ClsR.mapC (f : Cl → Cl) (hf : ∀ x v, ClR X w st.rt g x v → ClR X w st.rt g (f x) v) : ∀ {xs : List Cl} {vs : List Value}, ClsR X w st.rt g xs vs → ClsR X w st.rt g (xs.map f) vs
  | [], [], _ => trivial
  | x :: xs, v :: vs, h => ⟨hf _ _ h.1, ClsR.mapC f hf h.2⟩
  | [], _ :: _, h => h.elim
  | _ :: _, [], h => h.elim
theorem CapsR.mapC (f : Cl → Cl) (hf : ∀ x v, ClR X w st.rt g x v → ClR X w st.rt g (f x) v) : ∀ {xs : List Cap} {vs : List Value}, CapsR X w st.rt g xs vs → CapsR X w st.rt g (xs.map (Cap.mapC f)) vs
  | [], [], _ => trivial
  | .c x :: xs, v :: vs, h => ⟨hf _ _ h.1, CapsR.mapC f hf h.2⟩
  | .bx r o :: xs, v :: vs, h => ⟨h.1, CapsR.mapC f hf h.2⟩
  | .pr e us o :: xs, v :: vs, h => ⟨h.1, CapsR.mapC f hf h.2⟩
  | [], _ :: _, h => h.elim
  | .c _ :: _, [], h => h.elim
  | .bx .. :: _, [], h => h.elim
  | .pr .. :: _, [], h => h.elim
theorem TupR.mapC (f : Cl → Cl) (hf : ∀ x v, ClR X w st.rt g x v → ClR X w st.rt g (f x) v) : ∀ {xs : List (Bool × List Cl)} {vs : List Value}, TupR X w st.rt g xs vs → TupR X w st.rt g (xs.map fun x => (x.1, x.2.map f)) vs
  | [], [], _ => trivial
  | (true, xs) :: ys, v :: vs, h => by
    obtain ⟨⟨cs, h1, h2⟩, h3⟩ := h
    exact ⟨⟨cs, h1, ClsR.mapC f hf h2⟩, TupR.mapC f hf h3⟩
  | (false, [x]) :: ys, v :: vs, h => ⟨hf _ _ h.1, TupR.mapC f hf h.2⟩
  | (false, []) :: ys, v :: vs, h => TupR.mapC (xs := ys) f hf h
  | (false, x :: y :: zs) :: ys, v :: vs, h => TupR.mapC (xs := ys) f hf h
  | [], _ :: _, h => h.elim
  | (true, _) :: _, [], h => h.elim
  | (false, []) :: _, [], h => h.elim
  | (false, [_]) :: _, [], h => h.elim
  | (false, _ :: _ :: _) :: _, [], h => h.elim
theorem SVR.purge (hm : Mem X st w g) {r : Nat} {keep : Bool} {x : SV} {v : Value} (h : SVR X w st.rt g x v) : SVR X w st.rt g (x.purge r keep) v := by
  have hc := fun x v => ClR.purge (X := X) (st := st) (w := w) (g := g) hm (r := r) (keep := keep) (x := x) (v := v)
  cases x with
  | c x =>
    cases x with
    | no => trivial
    | al r' p e =>
      have h1 := hc (.al r' p e) v h
      simp only [SV.purge]
      generalize (Cl.purge r keep (.al r' p e)) = y at h1
      cases y <;> first | trivial | exact h1
    | _ => exact h
  | ag xs => obtain ⟨cs, h1, h2⟩ := h; exact ⟨cs, h1, ClsR.mapC _ hc h2⟩
  | po r' p e i o =>
    simp only [SV.purge]
    split
    · split
      · exact h
      · trivial
    · exact h
  | fn f caps => obtain ⟨vs, h1, h2⟩ := h; exact ⟨vs, h1, CapsR.mapC _ hc h2⟩
  | tup xs => obtain ⟨vs, h1, h2⟩ := h; exact ⟨vs, h1, TupR.mapC _ hc h2⟩
  | _ => exact h
/-- Purged, nothing that is known is wrong. -/
theorem Mem.purge (hm : Mem X st w g) (r : Nat) (keep : Bool) : Mem X (st.purge r keep) w g := by
  have hrt : ∀ (i : Nat), (st.purge r keep).rt[i]? = (st.rt[i]?).map (Root.purge r keep) := fun i => List.getElem?_map
  have hrow : ∀ (i : Nat) e d xs, st.rt[i]? = some (.row e d xs) → (st.purge r keep).rt[i]? = some (.row e d xs) := fun i e d xs h => by rw [hrt, h]; rfl
  have hK : Keep X (fun _ => False) (fun _ => False) w g st.rt w g (st.purge r keep).rt := by
    refine ⟨fun b hb => ⟨hb, rfl⟩, fun b r _ hb => ⟨hb, rfl⟩, fun _ _ _ => rfl, fun i e d xs _ h => hrow i e d xs h, fun i t cs h => ⟨rfl, _, by rw [hrt, h]; rfl⟩, fun _ h => h.elim⟩
  have hav : ∀ x : Root, x.avd (fun _ => False) (fun _ => False) st.rt := fun x => by
    cases x with
    | box t cs => intro y _; cases y <;> simp [Cl.avd]
    | _ => trivial
  refine ⟨fun i x hx => ?_, hm.lt, fun b s hb => by show s < (st.rt.map _).length; rw [List.length_map]; exact hm.ob b s hb, hm.n0, hm.np, by show X.np ≤ (st.rt.map _).length; rw [List.length_map]; exact hm.nl, hm.pm, hm.pv⟩
  rw [hrt] at hx
  obtain ⟨y, hy, rfl⟩ := Option.map_eq_some_iff.1 hx
  have h := RootR.keep hm hK hy (fun h => h) (hav y)
  cases y with
  | box t cs =>
    obtain ⟨vs, h1, h2, h3⟩ := hm.rt i _ hy
    exact ⟨vs, h1, h2, ClsR.keep hm hK (fun y _ => by cases y <;> simp [Cl.avd]) (ClsR.mapC _ (fun x v => ClR.purge hm) h3)⟩
  | row e d xs => cases d <;> exact h
  | gone => trivial
theorem SVR.purged (hm : Mem X st w g) {r : Nat} {keep : Bool} {x : SV} {v : Value} (h : SVR X w st.rt g x v) : SVR X w (st.purge r keep).rt g (x.purge r keep) v := by
  have hrt : ∀ (i : Nat), (st.purge r keep).rt[i]? = (st.rt[i]?).map (Root.purge r keep) := fun i => List.getElem?_map
  have hK : Keep X (fun _ => False) (fun _ => False) w g st.rt w g (st.purge r keep).rt := by
    refine ⟨fun b hb => ⟨hb, rfl⟩, fun b r _ hb => ⟨hb, rfl⟩, fun _ _ _ => rfl, fun i e d xs _ h => by rw [hrt, h]; rfl, fun i t cs h => ⟨rfl, _, by rw [hrt, h]; rfl⟩, fun _ h => h.elim⟩
  refine SVR.keep hm hK ?_ (SVR.purge hm h)
  generalize x.purge r keep = y
  cases y with
  | c x => cases x <;> simp [SV.avd, Cl.avd]
  | ag xs => intro y _; cases y <;> simp [Cl.avd]
  | po => exact fun _ => .inl id
  | fn f caps => intro y _; rcases y with y | _ | _ <;> try trivial
                 cases y <;> simp [Cap.avd, Cl.avd]
  | tup vs => intro y _ z _; cases z <;> simp [Cl.avd]
  | _ => trivial
end
end Go.Proofs.Ytlkcpabdpmenpaa.Eng
/- The evaluator, part 7: one root changes; a temporary is set; what the tables say of the program. Of no program. -/
namespace Go.Proofs.Ytlkcpabdpmenpaa.Eng
open Go.RowKit
set_option linter.unusedVariables false

section
variable {X : Ctx} {own0 : Nat → Option Nat} {w0 : World} {st : St} {a : Act} {w w' : World} {g g' : Gh}

theorem purge_rt (st : St) (r : Nat) (keep : Bool) (i : Nat) : (st.purge r keep).rt[i]? = (st.rt[i]?).map (Root.purge r keep) := List.getElem?_map
theorem setR_rt (st : St) (r : Nat) (x : Root) (i : Nat) : (st.setR r x).rt[i]? = if r = i then (if r < st.rt.length then some x else none) else st.rt[i]? := by
  show (st.rt.set r x)[i]? = _
  rw [List.getElem?_set]

/-- One root changes, what is known by it is forgotten; the roots of Q are gone. -/
theorem Mem.change (hm : Mem X st w g) (r : Nat) (keep : Bool) {Q : Nat → Prop} (hf : st.free Q) (hq : ∀ s x, Q s → s ≠ r → st.rt[s]? = some x → x = .gone) (x' : Root)
    (hK : Keep X (fun s => s = r ∨ Q s) (fun s => s = r ∧ keep = true) w g (st.purge r keep).rt w' g' ((st.purge r keep).setR r x').rt)
    (hx : RootR X w' ((st.purge r keep).setR r x').rt g' r x') (lt : ∀ b, g'.own b ≠ none → b < w'.heap.size) (ob : ∀ b s, g'.own b = some s → s < st.rt.length) (n0 : w.heap.size ≤ w'.heap.size)
    (pm : ∀ b s, g'.own b = some s → X.nw b ∨ (s < X.np ∧ X.po b = some s)) (pv : ∀ s, s < X.np → g'.v s = X.pv s) : Mem X ((st.purge r keep).setR r x') w' g' := by
  have hl : ((st.purge r keep).setR r x').rt.length = st.rt.length := by
    show ((st.rt.map _).set r x').length = _
    rw [List.length_set, List.length_map]
  refine ⟨fun i y hy => ?_, lt, fun b s h => by rw [hl]; exact ob b s h, hm.nle n0, hm.np, by rw [hl]; exact hm.nl, pm, pv⟩
  have hy0 := hy
  rw [setR_rt] at hy
  split at hy
  · rename_i hri
    subst hri
    split at hy
    · obtain rfl := Option.some.inj hy; exact hx
    · cases hy
  · rename_i hri
    by_cases hqi : Q i
    · rw [purge_rt] at hy
      obtain ⟨z, hz, rfl⟩ := Option.map_eq_some_iff.1 hy
      obtain rfl := hq i z hqi (fun h => hri h.symm) hz
      trivial
    · refine RootR.keep (hm.purge r keep) hK hy (fun h => h.elim (fun h => hri h.symm) hqi) ?_
      rw [purge_rt] at hy
      obtain ⟨z, hz, rfl⟩ := Option.map_eq_some_iff.1 hy
      exact Root.purge_avd (hf.2 z (List.mem_of_getElem? hz))
theorem Rel.change (h : Rel X own0 w0 st a w g) (r : Nat) (keep : Bool) {Q : Nat → Prop} (hf : st.free Q) (hq : ∀ s x, Q s → s ≠ r → st.rt[s]? = some x → x = .gone) (x' : Root)
    (hK : Keep X (fun s => s = r ∨ Q s) (fun s => s = r ∧ keep = true) w g (st.purge r keep).rt w' g' ((st.purge r keep).setR r x').rt)
    (hx : RootR X w' ((st.purge r keep).setR r x').rt g' r x') (lt : ∀ b, g'.own b ≠ none → b < w'.heap.size) (ob : ∀ b s, g'.own b = some s → s < st.rt.length) (n0 : w.heap.size ≤ w'.heap.size)
    (pm : ∀ b s, g'.own b = some s → X.nw b ∨ (s < X.np ∧ X.po b = some s)) (pv : ∀ s, s < X.np → g'.v s = X.pv s) (fr : Fr own0 w0 w' g') : Rel X own0 w0 ((st.purge r keep).setR r x') a w' g' := by
  refine ⟨h.mem.change r keep hf hq x' hK hx lt ob n0 pm pv, ?_, fun i sv hsv => ?_, h.df, fr⟩
  · show (st.sl.map _).length ≤ _
    rw [List.length_map]; exact h.sz
  · have hsv : (st.sl.map (SV.purge r keep))[i]? = some sv := hsv
    rw [List.getElem?_map] at hsv
    obtain ⟨y, hy, rfl⟩ := Option.map_eq_some_iff.1 hsv
    exact SVR.keep (h.mem.purge r keep) hK (SV.purge_avd (hf.1 y (List.mem_of_getElem? hy))) (SVR.purged h.mem (h.sl i y hy))

theorem Rel.put (h : Rel X own0 w0 st a w g) (d : Option Tmp) {sv : SV} {v : Value} (hs : SVR X w st.rt g sv v) : Rel X own0 w0 (st.put d sv) (a.put d v) w g := by
  cases d with
  | none => exact h
  | some d =>
    refine ⟨⟨h.mem.rt, h.mem.lt, h.mem.ob, h.mem.n0, h.mem.np, h.mem.nl, h.mem.pm, h.mem.pv⟩, ?_, fun i x hx => ?_, h.df, h.fr⟩
    · show (st.sl.set d sv).length ≤ (a.tmps.setIfInBounds d v).size
      rw [List.length_set, Array.size_setIfInBounds]; exact h.sz
    · have hx : (st.sl.set d sv)[i]? = some x := hx
      show SVR X w st.rt g x ((a.tmps.setIfInBounds d v).getD i undef)
      rw [List.getElem?_set] at hx
      by_cases hdi : d = i
      · subst hdi
        simp only [if_true] at hx
        split at hx
        · rename_i hlt
          obtain rfl := Option.some.inj hx
          have : d < a.tmps.size := Nat.lt_of_lt_of_le hlt h.sz
          simp [Array.getD_eq_getD_getElem?, this, hs]
        · cases hx
      · rw [if_neg hdi] at hx
        rw [Array.getD_eq_getD_getElem?, Array.getElem?_setIfInBounds_ne hdi, ← Array.getD_eq_getD_getElem?]
        exact h.sl i x hx
theorem put_rt (st : St) (d : Option Tmp) (sv : SV) : (st.put d sv).rt = st.rt := by cases d <;> rfl
theorem put_np (st : St) (d : Option Tmp) (sv : SV) : (st.put d sv).np = st.np := by cases d <;> rfl

/-! ### Roots that go into something else -/
theorem Keep.same (X : Ctx) (R B : Nat → Prop) (w : World) (g : Gh) (rt rt' : List Root) (row : ∀ (r : Nat) e d xs, ¬ R r → rt[r]? = some (.row e d xs) → rt'[r]? = some (.row e d xs))
    (box : ∀ (r : Nat) t cs, rt[r]? = some (.box t cs) → ∃ cs', rt'[r]? = some (.box t cs')) (base : ∀ r, B r → ∀ e d xs, rt[r]? = some (.row e d xs) → ∃ d' xs', rt'[r]? = some (.row e d' xs') ∧ xs'.length = xs.length) : Keep X R B w g rt w g rt' :=
  ⟨fun b hb => ⟨hb, rfl⟩, fun b r _ hb => ⟨hb, rfl⟩, fun _ _ _ => rfl, row, fun r t cs h => ⟨rfl, box r t cs h⟩, fun r hr => ⟨rfl, base r hr⟩⟩
theorem Rel.consume1 (h : Rel X own0 w0 st a w g) (r : Nat) (hr : IsRow st.rt r) : Rel X own0 w0 ((st.purge r false).setR r .gone) a w g := by
  obtain ⟨e0, d0, xs0, hr⟩ := hr
  refine h.change r false (Q := fun _ => False) (St.free_false st) (fun _ _ h => h.elim) .gone ?_ trivial h.mem.lt h.mem.ob (Nat.le_refl _) h.mem.pm h.mem.pv h.fr
  refine Keep.same _ _ _ _ _ _ _ (fun s e d xs hs h => ?_) (fun s t cs hb => ?_) (fun s hb => by simp at hb)
  · rw [setR_rt, if_neg (fun he => hs (.inl he.symm))]; exact h
  · rw [setR_rt]
    by_cases he : r = s
    · subst he; rw [purge_rt, hr] at hb; cases hb
    · rw [if_neg he]; exact ⟨cs, hb⟩
theorem consume_free {Q : Nat → Prop} : ∀ (rs : List Nat) {st : St}, st.free Q → (st.consume rs).free (fun s => s ∈ rs ∨ Q s)
  | [], st, h => by
    refine ⟨fun x hx => ?_, fun x hx => ?_⟩
    · have := SV.free_or (SV.free_false x) (h.1 x hx)
      simpa using this
    · have := St.free_or (St.free_false st) h
      simpa using this.2 x hx
  | r :: rs, st, h => by
    have h1 : (st.purge r false).free (fun s => s = r ∨ Q s) := St.free_or St.purge_self (St.purge_free h)
    have h2 : ((st.purge r false).setR r .gone).free (fun s => s = r ∨ Q s) := by
      refine ⟨h1.1, fun x hx => ?_⟩
      rcases List.mem_or_eq_of_mem_set hx with hx | rfl
      · exact h1.2 x hx
      · trivial
    have h3 := consume_free rs h2
    have e : (fun s => s ∈ r :: rs ∨ Q s) = (fun s => s ∈ rs ∨ s = r ∨ Q s) := by
      funext s
      simp only [List.mem_cons, eq_iff_iff]
      constructor
      · rintro ((h | h) | h)
        · exact .inr (.inl h)
        · exact .inl h
        · exact .inr (.inr h)
      · rintro (h | h | h)
        · exact .inl (.inr h)
        · exact .inl (.inl h)
        · exact .inr h
    rw [e]; exact h3
theorem consume_row {s : Nat} {e : TypeId} {d : Bool} {xs : List (List U)} : ∀ (rs : List Nat) {st : St}, s ∉ rs → ((st.consume rs).rt[s]? = some (.row e d xs) ↔ st.rt[s]? = some (.row e d xs))
  | [], st, _ => Iff.rfl
  | r :: rs, st, h => by
    simp only [List.mem_cons, not_or] at h
    refine (consume_row rs (st := (st.purge r false).setR r .gone) h.2).trans ?_
    rw [setR_rt, if_neg (fun he => h.1 he.symm), purge_rt]
    cases hx : st.rt[s]? with
    | none => simp
    | some x => cases x <;> simp [Root.purge]
theorem consume_box {s : Nat} {t : TypeId} : ∀ (rs : List Nat) {st : St} {cs : List Cl}, (∀ r ∈ rs, IsRow st.rt r) → nodupB rs = true → st.rt[s]? = some (.box t cs) → ∃ cs', (st.consume rs).rt[s]? = some (.box t cs')
  | [], st, cs, _, _, h => ⟨cs, h⟩
  | r :: rs, st, cs, hr, hn, h => by
    simp only [nodupB, Bool.and_eq_true, Bool.not_eq_true', List.elem_eq_mem, decide_eq_false_iff_not] at hn
    have hne : r ≠ s := by
      rintro rfl
      obtain ⟨e, d, xs, h'⟩ := hr r (by simp)
      rw [h] at h'; cases h'
    refine consume_box rs (st := (st.purge r false).setR r .gone) (cs := cs.map (Cl.purge r false)) (fun q hq => ?_) hn.2 ?_
    · obtain ⟨e, d, xs, h'⟩ := hr q (by simp [hq])
      refine ⟨e, d, xs, ?_⟩
      rw [setR_rt, if_neg (fun (he : r = q) => hn.1 (he.symm ▸ hq)), purge_rt, h']; rfl
    · rw [setR_rt, if_neg hne, purge_rt, h]; rfl
theorem consume_gone {s : Nat} : ∀ (rs : List Nat) {st : St}, (∀ r ∈ rs, IsRow st.rt r) → nodupB rs = true → s ∈ rs → (st.consume rs).rt[s]? = some .gone
  | r :: rs, st, hr, hn, hs => by
    simp only [nodupB, Bool.and_eq_true, Bool.not_eq_true', List.elem_eq_mem, decide_eq_false_iff_not] at hn
    by_cases he : s = r
    · subst he
      have key : ∀ (qs : List Nat) (st : St), s ∉ qs → st.rt[s]? = some .gone → (st.consume qs).rt[s]? = some .gone := by
        intro qs
        induction qs with
        | nil => exact fun st _ h => h
        | cons q qs ih =>
          intro st hq h
          simp only [List.mem_cons, not_or] at hq
          refine ih _ hq.2 ?_
          rw [setR_rt, if_neg (fun he => hq.1 he.symm), purge_rt, h]; rfl
      refine key rs _ hn.1 ?_
      rw [setR_rt, if_pos rfl]
      obtain ⟨e, d, xs, h'⟩ := hr s (by simp)
      have := lt_of_some h'
      rw [if_pos (by show s < (st.rt.map _).length; rw [List.length_map]; exact this)]
    · refine consume_gone rs (st := (st.purge r false).setR r .gone) (fun q hq => ?_) hn.2 (by simpa [he] using hs)
      obtain ⟨e, d, xs, h'⟩ := hr q (by simp [hq])
      refine ⟨e, d, xs, ?_⟩
      rw [setR_rt, if_neg (fun (he : r = q) => hn.1 (he.symm ▸ hq)), purge_rt, h']; rfl
theorem consume_len : ∀ (rs : List Nat) (st : St), (st.consume rs).rt.length = st.rt.length
  | [], st => rfl
  | r :: rs, st => (consume_len rs _).trans (by show ((st.rt.map _).set r _).length = _; rw [List.length_set, List.length_map])
theorem Rel.consume (rs : List Nat) : ∀ {st : St}, Rel X own0 w0 st a w g → (∀ r ∈ rs, IsRow st.rt r) → nodupB rs = true → Rel X own0 w0 (st.consume rs) a w g := by
  induction rs with
  | nil => exact fun h _ _ => h
  | cons r rs ih =>
    intro st h hr hn
    simp only [nodupB, Bool.and_eq_true, Bool.not_eq_true', List.elem_eq_mem, decide_eq_false_iff_not] at hn
    refine ih (h.consume1 r (hr r (by simp))) (fun q hq => ?_) hn.2
    obtain ⟨e, d, xs, h'⟩ := hr q (by simp [hq])
    refine ⟨e, d, xs, ?_⟩
    rw [setR_rt, if_neg (fun (he : r = q) => hn.1 (he.symm ▸ hq)), purge_rt, h']; rfl

/-! ### A new root -/
theorem add_rt (st : St) (x : Root) (i : Nat) : i < st.rt.length → (st.add x).rt[i]? = st.rt[i]? := fun h => List.getElem?_append_left h
theorem Keep.add (st : St) (x : Root) (hr : ∀ b, okb X w g b → okb X w' g' b ∧ w'.heap[b]? = w.heap[b]?) (ow : ∀ b r, g.own b = some r → g'.own b = some r ∧ w'.heap[b]? = w.heap[b]?)
    (vv : ∀ r, r < st.rt.length → g'.v r = g.v r ∧ g'.b r = g.b r) : Keep X (fun _ => False) (fun _ => False) w g st.rt w' g' (st.add x).rt :=
  ⟨hr, fun b r _ h => ow b r h, fun r h _ => (vv r h).1, fun r e d xs _ h => by rw [add_rt st x r (lt_of_some h)]; exact h, fun r t cs h => ⟨(vv r (lt_of_some h)).2, cs, by rw [add_rt st x r (lt_of_some h)]; exact h⟩, fun _ h => h.elim⟩
theorem Cl.avd_false {rt0 : List Root} (x : Cl) : x.avd (fun _ => False) (fun _ => False) rt0 := by cases x <;> simp [Cl.avd]
theorem SV.avd_false {rt0 : List Root} (y : SV) : y.avd (fun _ => False) (fun _ => False) rt0 := by
  cases y with
  | c x => exact Cl.avd_false x
  | ag xs => exact fun y _ => Cl.avd_false y
  | po => exact fun _ => .inl id
  | fn f caps => intro y _; rcases y with y | _ | _ <;> first | exact Cl.avd_false y | trivial
  | tup vs => exact fun y _ z _ => Cl.avd_false z
  | _ => trivial
theorem Root.avd_false {rt0 : List Root} (y : Root) : y.avd (fun _ => False) (fun _ => False) rt0 := by
  cases y with
  | box t cs => exact fun y _ => Cl.avd_false y
  | _ => trivial
theorem Rel.add (h : Rel X own0 w0 st a w g) (x : Root) (hr : ∀ b, okb X w g b → okb X w' g' b ∧ w'.heap[b]? = w.heap[b]?) (ow : ∀ b r, g.own b = some r → g'.own b = some r ∧ w'.heap[b]? = w.heap[b]?)
    (vv : ∀ r, r < st.rt.length → g'.v r = g.v r ∧ g'.b r = g.b r) (hx : RootR X w' (st.add x).rt g' st.rt.length x) (lt : ∀ b, g'.own b ≠ none → b < w'.heap.size)
    (ob : ∀ b s, g'.own b = some s → s < st.rt.length + 1) (n0 : w.heap.size ≤ w'.heap.size) (pm : ∀ b s, g'.own b = some s → X.nw b ∨ (s < X.np ∧ X.po b = some s)) (fr : Fr own0 w0 w' g') : Rel X own0 w0 (st.add x) a w' g' := by
  have hK := Keep.add (X := X) st x hr ow vv
  have hl : (st.add x).rt.length = st.rt.length + 1 := by show (st.rt ++ [x]).length = _; simp
  refine ⟨⟨fun i y hy => ?_, lt, fun b s hb => by rw [hl]; exact ob b s hb, h.mem.nle n0, h.mem.np, by rw [hl]; exact Nat.le_succ_of_le h.mem.nl, pm, fun s hs => ?_⟩, h.sz, fun i sv hsv => SVR.keep h.mem hK (SV.avd_false sv) (h.sl i sv hsv), h.df, fr⟩
  · by_cases hi : i < st.rt.length
    · rw [add_rt st x i hi] at hy
      exact RootR.keep h.mem hK hy (fun h => h) (Root.avd_false y)
    · have hlt := lt_of_some hy
      rw [hl] at hlt
      obtain rfl : i = st.rt.length := by omega
      have : (st.rt ++ [x])[st.rt.length]? = some x := by simp
      obtain rfl := Option.some.inj (this.symm.trans hy)
      exact hx
  · rw [(vv s (Nat.lt_of_lt_of_le hs h.mem.nl)).1]; exact h.mem.pv s hs
end

/-! ### What the tables say of the program -/
def zeroV : CT → Value | .int k => .int k 0 | .bool => .bool false | .str => .string ByteArray.empty | .slc _ => .slice none 0 0
def TRow.zero (r : TRow) : Value := match r.d with
  | .one c => zeroV c
  | _ => .agg (r.cts.map zeroV).toArray
def descOk : TD → TypeDesc → Prop
  | .one (.int k), .int k' => k = k' | .one .bool, .bool => True | .one .str, .string => True | .one (.slc e), .slice e' => e = e'
  | .st fs, .struct fields => fields.toList.map (fun f => (f.type, f.offset)) = fs
  | .arr n e, .array n' e' => n = n' ∧ e = e'
  | _, _ => False
structure TabOk (P : Program) (T : Tabs) : Prop where
  ok : ∀ t, (T.row t).d.known = true → ∃ i desc, P.info? t = some i ∧ P.underlying t = some desc ∧ i.size = T.size t ∧ i.bytes = (T.row t).bytes ∧ i.zero = some (T.row t).zero ∧ descOk (T.row t).d desc
  one : ∀ t c, (T.row t).d = .one c → T.ct t = [c]
end Go.Proofs.Ytlkcpabdpmenpaa.Eng
/- The evaluator, part 8: operations that change nothing but their own temporary. Of no program. -/
namespace Go.Proofs.Ytlkcpabdpmenpaa.Eng
open Go.RowKit
set_option linter.unusedVariables false

/-! ### Nothing hangs on what follows -/
section
variable {R : Type}
theorem bind_ite {α β : Type} {c : Prop} [Decidable c] (a b : Option α) (f : α → Option β) : (if c then a else b).bind f = if c then a.bind f else b.bind f := by split <;> rfl
theorem bind_cond {α β : Type} (c : Bool) (a b : Option α) (f : α → Option β) : (bif c then a else b).bind f = bif c then a.bind f else b.bind f := by cases c <;> rfl
theorem loadK_bind (T : Tabs) (rt : List Root) (t : TypeId) (a : SV) (K : SV → Option R) : loadK T rt t a K = (loadK T rt t a some).bind K := by
  unfold loadK
  repeat' split
  all_goals first | rfl | contradiction | simp only [bind_cond, Option.bind_none, Option.bind_some]
theorem addrPlus_bind (a : SV) (o : Nat) (K : SV → Option R) : addrPlus a o K = (addrPlus a o some).bind K := by cases a <;> rfl
theorem qK_bind (T : Tabs) (eqT : TypeId → Bool) (rt : List Root) (ρ : Operand → SV) (op : Op) (K : SV → Option R) : qK T eqT rt ρ op K = (qK T eqT rt ρ op some).bind K := by
  cases op <;> simp only [qK]
  case load => exact loadK_bind ..
  case fieldAddr =>
    unfold fieldAddrK
    repeat' split
    all_goals first | rfl | exact addrPlus_bind ..
  case binOp =>
    unfold binK intBin
    repeat' split
    all_goals first | rfl | simp only [bind_cond, Option.bind_none, Option.bind_some]
  all_goals
    try unfold fieldK
    try unfold indexAddrK
    try simp only [fNat_eq]
    try unfold indexK
    try unfold lenK
    try unfold sliceK
    try unfold minMaxK
    repeat' split
    all_goals first | rfl | contradiction | simp only [bind_cond, Option.bind_none, Option.bind_some]
end

section
variable {P : Program} {X : Ctx} {own0 : Nat → Option Nat} {w0 : World} {st : St} {a : Act} {w : World} {g : Gh}

theorem constCl_ok {rt : List Root} (v : Value) (h : constCl v ≠ .no) : ClR X w rt g (constCl v) v := by
  unfold constCl
  split <;> first | rfl | (exact absurd (by unfold constCl; split <;> first | rfl | simp_all) h)
theorem constCls_ok {rt : List Root} : ∀ (vs : List Value) {xs : List Cl}, constCls vs = some xs → ClsR X w rt g xs vs
  | [], xs, h => by cases h; trivial
  | v :: vs, xs, h => by
    unfold constCls at h
    split at h
    · cases h
    · rename_i hne
      obtain ⟨ys, h1, rfl⟩ := Option.map_eq_some_iff.1 h
      exact ⟨constCl_ok v hne, constCls_ok vs h1⟩
theorem ev_sound (h : Rel X own0 w0 st a w g) (x : Operand) : SVR X w st.rt g (ev st x) (a.eval x) := by
  cases x with
  | tmp t =>
    show SVR X w st.rt g (st.sl.getD t .no) (a.tmps.getD t undef)
    rw [List.getD_eq_getElem?_getD]
    cases hx : st.sl[t]? with
    | none => trivial
    | some sv => exact h.sl t sv hx
  | const v =>
    show SVR X w st.rt g (constSV v) v
    unfold constSV
    split
    · rename_i cs
      split
      · rename_i xs hxs; exact ⟨cs, rfl, constCls_ok _ hxs⟩
      · trivial
    · by_cases hn : constCl v = .no
      · rw [hn]; trivial
      · have h1 := constCl_ok (X := X) (w := w) (g := g) (rt := st.rt) v hn
        generalize constCl v = x at *
        cases x <;> first | exact h1 | trivial
  | global g => trivial
  | func f => exact ⟨#[], rfl, trivial⟩
theorem SVR.cl {rt : List Root} {x : Cl} {v : Value} (h : SVR X w rt g (.c x) v) (hx : x ≠ .no) : ClR X w rt g x v := by
  cases x <;> first | exact h | exact absurd rfl hx
theorem SVR.ofCl {rt : List Root} {x : Cl} {v : Value} (h : ClR X w rt g x v) : SVR X w rt g (.c x) v := by
  cases x <;> first | exact h | trivial

theorem run_isAgg (hT : TabOk P X.T) {t : TypeId} (ht : (X.T.row t).d.known = true) : (isAgg t).run P w = .ok (X.T.agg t) w := by
  obtain ⟨i, desc, h1, h2, h3, h4, h5, h6⟩ := hT.ok t ht
  unfold Tabs.agg TD.isAgg
  unfold descOk at h6
  simp only [isAgg, Sem.run_bind, run_underlying h2, Result.andThen_ok]
  split at h6 <;> first | (cases h6; done) | (simp_all; done) | (simp_all [Sem.run_pure])
theorem run_sizeOf (hT : TabOk P X.T) {t : TypeId} (ht : (X.T.row t).d.known = true) : (sizeOf t).run P w = .ok (X.T.size t) w := by
  obtain ⟨i, desc, h1, h2, h3, h4, h5, h6⟩ := hT.ok t ht
  simp [sizeOf, typeInfo, h1, h3]
def packV (agg : Bool) (cs : List Value) : Value := if agg then .agg cs.toArray else cs.headD undef
theorem size_one (hT : TabOk P X.T) {t : TypeId} (ht : (X.T.row t).d.known = true) (ha : X.T.agg t = false) : X.T.size t = 1 := by
  unfold Tabs.agg at ha
  cases hd : (X.T.row t).d with
  | one c => have := hT.one t c hd; unfold Tabs.size; rw [show (X.T.row t).cts = [c] from this]; rfl
  | st => rw [hd] at ha; cases ha
  | arr => rw [hd] at ha; cases ha
  | other => rw [hd] at ht; cases ht
theorem run_loadAt (hT : TabOk P X.T) {t : TypeId} (ht : (X.T.row t).d.known = true) {b o : Nat} {cs : List Value} (hl : cs.length = X.T.size t) (hc : ∀ (j : Nat) v, cs[j]? = some v → w.cell? ⟨b, o + j, none⟩ = some v) :
    (Instr.loadAt t (.pointer (some ⟨b, o, none⟩))).run P w = .ok (packV (X.T.agg t) cs) w := by
  simp only [Instr.loadAt, Instr.sureAddr, loadVar, Sem.run_bind, Sem.run_pure, Result.andThen_ok, run_isAgg hT ht]
  cases ha : X.T.agg t with
  | true =>
    have hr := run_loadCells_list (P := P) (w := w) ⟨b, o, none⟩ cs (fun j v h => by rw [Addr.add_lit]; exact hc j v h)
    simp only [if_true, Sem.run_bind, run_sizeOf hT ht, Result.andThen_ok, ← hl, hr, Sem.run_pure, packV]
  | false =>
    have h1 := size_one hT ht ha
    rw [h1] at hl
    match cs, hl with
    | [v], _ =>
      have := hc 0 v rfl
      simp [load, Sem.run, packV, this] at *
theorem SVR.pack (hT : TabOk P X.T) {t : TypeId} (ht : (X.T.row t).d.known = true) {xs : List Cl} {cs : List Value} {rt : List Root} (hl : xs.length = X.T.size t) (h : ClsR X w rt g xs cs) : SVR X w rt g (pack (X.T.agg t) xs) (packV (X.T.agg t) cs) := by
  cases ha : X.T.agg t with
  | true => exact ⟨cs.toArray, rfl, by simpa using h⟩
  | false =>
    rw [size_one hT ht ha] at hl
    match xs, cs, h, hl with
    | [x], [v], h, _ => exact SVR.ofCl h.1
theorem ClR.ofU {rt : List Root} {ct : CT} {u : U} {v : Value} (h : RepR X.T.ct w (okb X w g) ct u v) : ClR X w rt g (Cl.ofU ct u) v := by
  cases ct with
  | int k => exact h.int_inv.2
  | bool => exact h.bool_inv.2
  | str => exact h.str_inv.2
  | slc e => have := h.slc_inv; rw [this] at h; exact h
theorem cellsR_get {cts : List CT} {us : List U} {o n i : Nat} {x : Cl} (h : (cellsR cts us o n)[i]? = some x) : i < n ∧ ∃ ct, cts[o + i]? = some ct ∧ x = Cl.ofU ct (us.getD (o + i) U0) := by
  unfold cellsR at h
  rw [List.getElem?_map, List.getElem?_zipIdx] at h
  obtain ⟨y, hy, rfl⟩ := Option.map_eq_some_iff.1 h
  obtain ⟨ct, hct, rfl⟩ := Option.map_eq_some_iff.1 hy
  rw [List.getElem?_take] at hct
  split at hct
  · rename_i hlt
    rw [List.getElem?_drop] at hct
    exact ⟨hlt, ct, hct, rfl⟩
  · cases hct
theorem cellsR_len {cts : List CT} {us : List U} {o n : Nat} : (cellsR cts us o n).length = ((cts.drop o).take n).length := by simp [cellsR]
/-- The cells from b.o on. -/
def cellVals (w : World) (b o n : Nat) : List Value := (List.range n).map fun i => (w.cell? ⟨b, o + i, none⟩).getD undef
theorem cellVals_get {b o n i : Nat} {v : Value} (h : (cellVals w b o n)[i]? = some v) : i < n ∧ v = (w.cell? ⟨b, o + i, none⟩).getD undef := by
  unfold cellVals at h
  rw [List.getElem?_map] at h
  obtain ⟨y, hy, rfl⟩ := Option.map_eq_some_iff.1 h
  obtain ⟨h1, h2⟩ := List.getElem?_eq_some_iff.1 hy
  simp at h1 h2
  subst h2
  exact ⟨h1, rfl⟩
theorem cellVals_len {b o n : Nat} : (cellVals w b o n).length = n := by simp [cellVals]
/-- A row that is read, loaded. -/
theorem PrR.cells {e : TypeId} {us : List U} {o : Nat} {v : Value} {rt : List Root} (h : PrR X w g e us o v) {n : Nat} (hn : (((X.T.ct e).drop o).take n).length = n) :
    ∃ b off, v = .pointer (some ⟨b, off, none⟩) ∧ ClsR X w rt g (cellsR (X.T.ct e) us o n) (cellVals w b off n) ∧ ∀ j u, (cellVals w b off n)[j]? = some u → w.cell? ⟨b, off + j, none⟩ = some u := by
  obtain ⟨b, off, rfl, hb, hl, hc⟩ := h
  have key : ∀ j, j < n → ∃ ct x, (X.T.ct e)[o + j]? = some ct ∧ w.cell? ⟨b, off + o + j, none⟩ = some x ∧ RepR X.T.ct w (okb X w g) ct (us.getD (o + j) U0) x := by
    intro j hj
    rw [List.length_take, List.length_drop] at hn
    have h1 : o + j < (X.T.ct e).length := by omega
    have hu : us[o + j]? = some (us.getD (o + j) U0) := by
      rw [List.getD_eq_getElem?_getD, List.getElem?_eq_getElem (by omega)]; rfl
    have hct := List.getElem?_eq_getElem h1
    obtain ⟨x, h2, h3⟩ := hc (o + j) _ _ hu hct
    exact ⟨_, x, hct, by rw [Nat.add_assoc]; exact h2, h3⟩
  refine ⟨b, off + o, rfl, ?_, ?_⟩
  · refine ClsR.ofGet (by rw [cellsR_len, cellVals_len]; exact hn) fun i x v hx hv => ?_
    obtain ⟨hi, ct, hct, rfl⟩ := cellsR_get hx
    obtain ⟨-, rfl⟩ := cellVals_get hv
    obtain ⟨ct', y, h1, h2, h3⟩ := key i hi
    obtain rfl := Option.some.inj (hct.symm.trans h1)
    rw [h2]; exact ClR.ofU h3
  · intro j u hu
    obtain ⟨hj, rfl⟩ := cellVals_get hu
    obtain ⟨_, y, _, h2, _⟩ := key j hj
    rw [h2]; rfl
theorem cellsO_get {dp : Bool} {r : Nat} {p : Path} {i0 : Nat} {cts : List CT} {us : List U} {o n i : Nat} {x : Cl} (h : (cellsO dp r p i0 cts us o n)[i]? = some x) : i < n ∧ ∃ ct, cts[o + i]? = some ct ∧
    x = (match ct with | .slc e => if dp then .al r (p ++ [(i0, o + i)]) e else .rd e (us.getD (o + i) U0).toLst | ct => Cl.ofU ct (us.getD (o + i) U0)) := by
  unfold cellsO at h
  rw [List.getElem?_map, List.getElem?_zipIdx] at h
  obtain ⟨y, hy, rfl⟩ := Option.map_eq_some_iff.1 h
  obtain ⟨ct, hct, rfl⟩ := Option.map_eq_some_iff.1 hy
  rw [List.getElem?_take] at hct
  split at hct
  · rename_i hlt
    rw [List.getElem?_drop] at hct
    exact ⟨hlt, ct, hct, by cases ct <;> rfl⟩
  · cases hct
theorem cellsO_len {dp : Bool} {r : Nat} {p : Path} {i0 : Nat} {cts : List CT} {us : List U} {o n : Nat} : (cellsO dp r p i0 cts us o n).length = ((cts.drop o).take n).length := by simp [cellsO]
/-- An element of a row of one's own, loaded. -/
theorem po_cells (hm : Mem X st w g) {r : Nat} {p : Path} {e : TypeId} {i o : Nat} {v : Value} {e0 : TypeId} {d : Bool} {xs : List (List U)} (hr : st.rt[r]? = some (.row e0 d xs)) (h : SVR X w st.rt g (.po r p e i o) v) {n : Nat}
    (hn : (((X.T.ct e).drop o).take n).length = n) :
    ∃ b off, v = .pointer (some ⟨b, off, none⟩) ∧ ClsR X w st.rt g (cellsO d r p i (X.T.ct e) ((getP xs p).getD i []) o n) (cellVals w b off n) ∧ ∀ j u, (cellVals w b off n)[j]? = some u → w.cell? ⟨b, off + j, none⟩ = some u := by
  obtain ⟨e0', d', xs', b, q, n', c, h1, h2, h3, h4, rfl⟩ := h
  obtain ⟨rfl, rfl, rfl⟩ : e0 = e0' ∧ d = d' ∧ xs = xs' := by rw [hr] at h1; cases h1; exact ⟨rfl, rfl, rfl⟩
  have hx : (getP xs p)[i]? = some ((getP xs p).getD i []) := by
    rw [List.getD_eq_getElem?_getD, List.getElem?_eq_getElem h4]; rfl
  have hroot := hm.rt r _ hr
  rw [List.length_take, List.length_drop] at hn
  -- each cell
  have key : ∀ j, j < n → ∃ ct x, (X.T.ct e)[o + j]? = some ct ∧ w.cell? ⟨b, q + (i * X.T.size e + (o + j)), none⟩ = some x ∧
      ClR X w st.rt g (match ct with | .slc e => if d then .al r (p ++ [(i, o + j)]) e else .rd e (((getP xs p).getD i []).getD (o + j) U0).toLst | ct => Cl.ofU ct (((getP xs p).getD i []).getD (o + j) U0)) x := by
    intro j hj
    have h5 : o + j < (X.T.ct e).length := by omega
    have hct := List.getElem?_eq_getElem h5
    cases d with
    | true =>
      obtain ⟨F', hF, h6⟩ := RepO.at h3 hroot
      have h6' := h6
      cases h6 with
      | row _ _ _ _ cs V lab ho hg hV hs hh =>
        have hsz := hs i _ hx
        have hu : ((getP xs p).getD i [])[o + j]? = some (((getP xs p).getD i []).getD (o + j) U0) := by
          conv => rhs; rw [List.getD_eq_getElem?_getD]
          rw [List.getElem?_eq_getElem (by omega)]; rfl
        have hcell := ownsAt_cell ho (hV i (o + j) _ hx (by omega))
        have hrep := hh i (o + j) _ _ _ hx hu hct
        refine ⟨_, V i (o + j), hct, hcell, ?_⟩
        generalize (X.T.ct e)[o + j] = ct at *
        cases ct with
        | slc e1 =>
          have hl := hrep.slc_inv
          have hA : At X.T.ct w (.slc e0) (.lst xs) (g.v r) (p ++ [(i, o + j)]) (.slc e1) (((getP xs p).getD i []).getD (o + j) U0) (V i (o + j)) :=
            h3.trans (.cons e _ b q n' c i (o + j) _ _ _ _ _ _ _ _ hx hu hct hcell (.nil _ _ _))
          refine ⟨e0, true, xs, hr, .inr rfl, ?_⟩
          have hg2 := hA.getP rfl
          rw [hl] at hA
          rw [hg2]; exact hA
        | int k => exact hrep.int_inv.2
        | bool => exact hrep.bool_inv.2
        | str => exact hrep.str_inv.2
    | false =>
      obtain rfl : p = [] := by simpa using h2
      obtain ⟨h7, -, h8⟩ := h3.nil_inv
      obtain rfl := CT.slc.inj h7
      obtain ⟨cs, V, ho, hg, hV, hs, hh⟩ := RepS.ex hroot
      rw [← h8] at ho
      have hsz := hs i _ hx
      have hu : ((getP xs []).getD i [])[o + j]? = some (((getP xs []).getD i []).getD (o + j) U0) := by
        conv => rhs; rw [List.getD_eq_getElem?_getD]
        rw [List.getElem?_eq_getElem (by omega)]; rfl
      have hcell := ownsAt_cell ho (hV i (o + j) _ hx (by omega))
      have hrep := hh i (o + j) _ _ _ hx hu hct
      refine ⟨_, V i (o + j), hct, hcell, ?_⟩
      have h9 : ClR X w st.rt g (Cl.ofU (X.T.ct e)[o + j] (((getP xs []).getD i []).getD (o + j) U0)) (V i (o + j)) := ClR.ofU hrep
      generalize (X.T.ct e)[o + j] = ct at *
      cases ct <;> exact h9
  refine ⟨b, q + (i * X.T.size e + o), rfl, ?_, ?_⟩
  · refine ClsR.ofGet (by rw [cellsO_len, cellVals_len, List.length_take, List.length_drop]; exact hn) fun k x v hx hv => ?_
    obtain ⟨hk, ct, hct, rfl⟩ := cellsO_get hx
    obtain ⟨-, rfl⟩ := cellVals_get hv
    obtain ⟨ct', y, h5, h6, h7⟩ := key k hk
    obtain rfl := Option.some.inj (hct.symm.trans h5)
    rw [Nat.add_assoc, Nat.add_assoc, h6]; exact h7
  · intro j u hu
    obtain ⟨hj, rfl⟩ := cellVals_get hu
    obtain ⟨_, y, _, h6, _⟩ := key j hj
    rw [Nat.add_assoc, Nat.add_assoc, h6]; rfl
theorem boolsOf_len : ∀ {cs : List Cl} {bs : List Bool}, boolsOf cs = some bs → cs = bs.map .bool
  | [], bs, h => by cases h; rfl
  | .bool b :: cs, bs, h => by
    unfold boolsOf at h
    obtain ⟨ts, h1, rfl⟩ := Option.map_eq_some_iff.1 h
    rw [boolsOf_len h1]; rfl
  | .int .. :: _, _, h => by cases h
  | .str .. :: _, _, h => by cases h
  | .rd .. :: _, _, h => by cases h
  | .nil :: _, _, h => by cases h
  | .al .. :: _, _, h => by cases h
  | .no :: _, _, h => by cases h
theorem intsOf_len {k : IntKind} : ∀ {cs : List Cl} {ns : List Int}, intsOf k cs = some ns → cs = ns.map (.int k)
  | [], ns, h => by cases h; rfl
  | .int k' n :: cs, ns, h => by
    unfold intsOf at h
    split at h
    · rename_i hk
      subst hk
      obtain ⟨ts, h1, rfl⟩ := Option.map_eq_some_iff.1 h
      rw [intsOf_len h1]; rfl
    · cases h
  | .bool .. :: _, _, h => by cases h
  | .str .. :: _, _, h => by cases h
  | .rd .. :: _, _, h => by cases h
  | .nil :: _, _, h => by cases h
  | .al .. :: _, _, h => by cases h
  | .no :: _, _, h => by cases h
/-- Reading one number of an array is the old way, said otherwise. -/
theorem intsAt_old {T : Tabs} {t' t : TypeId} {cs : List Cl} {k : IntKind} {ns : List Int} {o : Nat} (h : intsAt T t' t cs = some (k, ns)) (ho : o < ns.length) :
    ((cs.drop o).take (T.size t)).length = T.size t ∧ pack (T.agg t) ((cs.drop o).take (T.size t)) = .c (.int k (ns.getD o 0)) := by
  unfold intsAt at h
  split at h
  · rename_i k' h1 h2 h3
    obtain ⟨ns', h4, h5⟩ := Option.map_eq_some_iff.1 h
    cases h5
    obtain rfl := intsOf_len h4
    have hs : T.size t = 1 := by show (T.ct t).length = 1; rw [h2]; rfl
    have e : ((ns.map (Cl.int k)).drop o).take (T.size t) = [.int k (ns.getD o 0)] := by
      rw [hs, List.drop_eq_getElem_cons (by simpa using ho)]
      simp [List.getD_eq_getElem?_getD, List.getElem?_eq_getElem ho]
    rw [e, hs, h3]
    exact ⟨rfl, rfl⟩
  · cases h
/-- Reading one bool of an array is the old way, said otherwise. -/
theorem boolsAt_old {T : Tabs} {t' t : TypeId} {cs : List Cl} {bs : List Bool} {o : Nat} (h : boolsAt T t' t cs = some bs) (ho : o < bs.length) :
    ((cs.drop o).take (T.size t)).length = T.size t ∧ pack (T.agg t) ((cs.drop o).take (T.size t)) = .c (.bool (bs.getD o false)) := by
  unfold boolsAt at h
  split at h
  · rename_i h1 h2 h3
    obtain rfl := boolsOf_len h
    have hs : T.size t = 1 := by show (T.ct t).length = 1; rw [h2]; rfl
    have e : ((bs.map Cl.bool).drop o).take (T.size t) = [.bool (bs.getD o false)] := by
      rw [hs, List.drop_eq_getElem_cons (by simpa using ho)]
      simp [List.getD_eq_getElem?_getD, List.getElem?_eq_getElem ho]
    rw [e, hs, h3]
    exact ⟨rfl, rfl⟩
  · cases h
theorem loadK_sound (hT : TabOk P X.T) (h : Mem X st w g) {t : TypeId} {sa sv : SV} {v : Value} (ha : SVR X w st.rt g sa v) (hq : loadK X.T st.rt t sa some = some sv) : ∃ u, (Instr.loadAt t v).run P w = .ok u w ∧ SVR X w st.rt g sv u := by
  unfold loadK at hq
  split at hq
  · rename_i ht
    split at hq
    · rename_i r o
      split at hq
      · rename_i t' cs hr
        have hq : (if ((cs.drop o).take (X.T.size t)).length = X.T.size t then some (pack (X.T.agg t) ((cs.drop o).take (X.T.size t))) else none) = some sv := by
          split at hq
          · rename_i bs hb
            cases hz : decide (o < bs.length) with
            | false => rw [hz] at hq; cases hq
            | true =>
              rw [hz] at hq
              obtain ⟨q1, q2⟩ := boolsAt_old hb (of_decide_eq_true hz)
              rw [if_pos q1, q2]; exact hq
          · split at hq
            · rename_i k ns hb
              cases hz : decide (o < ns.length) with
              | false => rw [hz] at hq; cases hq
              | true =>
                rw [hz] at hq
                obtain ⟨q1, q2⟩ := intsAt_old hb (of_decide_eq_true hz)
                rw [if_pos q1, q2]; exact hq
            · exact hq
        split at hq
        · rename_i hl
          obtain rfl := Option.some.inj hq
          obtain ⟨vs, h1, h2, h3⟩ := h.rt r _ hr
          obtain ⟨rfl, -⟩ := ha
          have h4 := (h3.drop o).take (X.T.size t)
          refine ⟨_, run_loadAt hT ht (cs := (vs.toList.drop o).take (X.T.size t)) (by rw [← h4.length]; exact hl) (fun j v hv => ?_), SVR.pack hT ht hl h4⟩
          rw [List.getElem?_take] at hv
          split at hv
          · rw [List.getElem?_drop] at hv
            rw [heap_cell h1]; simpa using hv
          · cases hv
        · cases hq
      · cases hq
    · rename_i e us o
      split at hq
      · rename_i hl
        obtain rfl := Option.some.inj hq
        obtain ⟨b, off, rfl, h2, h3⟩ := PrR.cells (rt := st.rt) ha hl
        exact ⟨_, run_loadAt hT ht cellVals_len h3, SVR.pack hT ht (by rw [cellsR_len]; exact hl) h2⟩
      · cases hq
    · rename_i r p e i o
      split at hq
      · rename_i e0 dp xs hr
        split at hq
        · rename_i hl
          obtain rfl := Option.some.inj hq
          obtain ⟨b, off, rfl, h2, h3⟩ := po_cells h hr ha hl
          exact ⟨_, run_loadAt hT ht cellVals_len h3, SVR.pack hT ht (by rw [cellsO_len]; exact hl) h2⟩
        · cases hq
      · cases hq
    · cases hq
  · cases hq
end
end Go.Proofs.Ytlkcpabdpmenpaa.Eng
/- The evaluator, part 9: quiet operations, all. Of no program. -/
namespace Go.Proofs.Ytlkcpabdpmenpaa.Eng
open Go.RowKit
set_option linter.unusedVariables false

def eqVals : List CT → List Value → List Value → Option Bool
  | [], [], [] => some true
  | .int k :: ts, .int k1 a :: xs, .int k2 b :: ys => if k1 = k ∧ k2 = k then (eqVals ts xs ys).map (decide (a = b) && ·) else none
  | .bool :: ts, .bool a :: xs, .bool b :: ys => (eqVals ts xs ys).map ((a == b) && ·)
  | .str :: ts, .string a :: xs, .string b :: ys => (eqVals ts xs ys).map (decide (a = b) && ·)
  | _, _, _ => none
/-- Structs of these types are compared cell by cell. -/
def EqOk (P : Program) (T : Tabs) (eqT : TypeId → Bool) : Prop := ∀ t, eqT t = true → ∀ (b : BinOp) (x y : Operand) (vs us : Array Value) (r : Bool), eqVals (T.ct t) vs.toList us.toList = some r → ∀ w,
  (b = .eql → (do eqGuard b t x y (.agg vs) (.agg us); binOp b t (.agg vs) (.agg us) : Sem Value).run P w = .ok (.bool r) w) ∧
  (b = .neq → (do eqGuard b t x y (.agg vs) (.agg us); binOp b t (.agg vs) (.agg us) : Sem Value).run P w = .ok (.bool (!r)) w)

section
variable {P : Program} {X : Ctx} {own0 : Nat → Option Nat} {w0 : World} {st : St} {a : Act} {w : World} {g : Gh} {eqT : TypeId → Bool}

theorem inRange_spec {n : Int} {len : Nat} (h : inRange n len = true) : 0 ≤ n ∧ n < (len : Int) ∧ n.toNat < len := by
  simp only [inRange, decide_eq_true_eq] at h
  exact ⟨h.1, h.2, by omega⟩
theorem und (hT : TabOk P X.T) {t : TypeId} {d : TD} (hd : (X.T.row t).d = d) (hk : d.known = true) : ∃ desc, P.underlying t = some desc ∧ descOk d desc := by
  obtain ⟨i, desc, h1, h2, h3, h4, h5, h6⟩ := hT.ok t (by rw [hd]; exact hk)
  exact ⟨desc, h2, by rw [← hd]; exact h6⟩
theorem und_slc (hT : TabOk P X.T) {t e : TypeId} (hd : (X.T.row t).d = .one (.slc e)) : P.underlying t = some (.slice e) := by
  obtain ⟨desc, h1, h2⟩ := und hT hd rfl
  cases desc <;> first | exact h2.elim | (simp only [descOk] at h2; subst h2; exact h1)
theorem und_str (hT : TabOk P X.T) {t : TypeId} (hd : (X.T.row t).d = .one .str) : P.underlying t = some .string := by
  obtain ⟨desc, h1, h2⟩ := und hT hd rfl
  cases desc <;> first | exact h2.elim | exact h1
theorem und_bool (hT : TabOk P X.T) {t : TypeId} (hd : (X.T.row t).d = .one .bool) : P.underlying t = some .bool := by
  obtain ⟨desc, h1, h2⟩ := und hT hd rfl
  cases desc <;> first | exact h2.elim | exact h1
theorem und_int (hT : TabOk P X.T) {t : TypeId} {k : IntKind} (hd : (X.T.row t).d = .one (.int k)) : P.underlying t = some (.int k) := by
  obtain ⟨desc, h1, h2⟩ := und hT hd rfl
  cases desc <;> first | exact h2.elim | (simp only [descOk] at h2; subst h2; exact h1)
theorem und_arr (hT : TabOk P X.T) {t e : TypeId} {n : Nat} (hd : (X.T.row t).d = .arr n e) : P.underlying t = some (.array n e) := by
  obtain ⟨desc, h1, h2⟩ := und hT hd rfl
  cases desc <;> first | exact h2.elim | (simp only [descOk] at h2; obtain ⟨rfl, rfl⟩ := h2; exact h1)
theorem und_st (hT : TabOk P X.T) {t : TypeId} {fs : List (TypeId × Nat)} (hd : (X.T.row t).d = .st fs) : ∃ fields, P.underlying t = some (.struct fields) ∧ ∀ (i : Nat) x, fs[i]? = some x → ∃ f : Field, fields[i]? = some f ∧ f.type = x.1 ∧ f.offset = x.2 := by
  obtain ⟨desc, h1, h2⟩ := und hT hd rfl
  cases desc <;> try exact h2.elim
  rename_i fields
  refine ⟨fields, h1, fun i x hx => ?_⟩
  simp only [descOk] at h2
  rw [← h2, List.getElem?_map] at hx
  obtain ⟨f, hf, rfl⟩ := Option.map_eq_some_iff.1 hx
  exact ⟨f, by simpa using hf, rfl, rfl⟩

theorem fieldAddrK_sound (hT : TabOk P X.T) {t : TypeId} {sa sv : SV} {v : Value} {f : Nat} (ha : SVR X w st.rt g sa v) (hq : fieldAddrK X.T t sa f some = some sv) : ∃ u, (Instr.fieldAt t v f).run P w = .ok u w ∧ SVR X w st.rt g sv u := by
  unfold fieldAddrK at hq
  split at hq
  · rename_i fs hd
    obtain ⟨fields, h1, h2⟩ := und_st hT hd
    split at hq
    · rename_i ft o hf
      split at hq
      · cases hq
      · rename_i hn
        simp only [not_or, Bool.not_eq_false] at hn
        obtain ⟨fl, h3, h4, h5⟩ := h2 f _ hf
        have hsz : (sizeOf fl.type).run P w = .ok (X.T.size ft) w := by rw [h4]; exact run_sizeOf hT hn.2
        have key : ∀ (b j : Nat), (Instr.fieldAt t (.pointer (some ⟨b, j, none⟩)) f).run P w = .ok (.pointer (some ⟨b, j + o, none⟩)) w := by
          intro b j
          have hne : ¬ X.T.size ft = 0 := hn.1
          simp [Instr.fieldAt, run_underlying h1, h3, Instr.sureAddr, fieldPlace, hsz, hne, Addr.add_lit, h5]
        unfold addrPlus at hq
        split at hq
        · obtain rfl := Option.some.inj hq
          obtain ⟨rfl, h6⟩ := ha
          exact ⟨_, key _ _, rfl, h6⟩
        · obtain rfl := Option.some.inj hq
          obtain ⟨b, off, rfl, h6⟩ := ha
          exact ⟨_, key _ _, b, off, by rw [Nat.add_assoc], h6⟩
        · obtain rfl := Option.some.inj hq
          obtain ⟨e0, d, xs, b, q, n, c, h6, h7, h8, h9, rfl⟩ := ha
          exact ⟨_, key _ _, e0, d, xs, b, q, n, c, h6, h7, h8, h9, by rw [Nat.add_assoc, Nat.add_assoc]⟩
        · cases hq
    · cases hq
  · cases hq
theorem extract_toList (cs : Array Value) (o n : Nat) : (cs.extract o (o + n)).toList = (cs.toList.drop o).take n := by
  rw [Array.toList_extract, List.extract_eq_take_drop, Nat.add_sub_cancel_left]
theorem run_part (hT : TabOk P X.T) {t : TypeId} (ht : (X.T.row t).d.known = true) {cs : Array Value} {o : Nat} (hl : ((cs.toList.drop o).take (X.T.size t)).length = X.T.size t) : (part t cs o).run P w = .ok (packV (X.T.agg t) ((cs.toList.drop o).take (X.T.size t))) w := by
  simp only [part, Sem.run_bind, run_isAgg hT ht, Result.andThen_ok]
  cases ha : X.T.agg t with
  | true =>
    simp only [if_true, Sem.run_bind, run_sizeOf hT ht, Result.andThen_ok, Sem.run_pure, packV]
    congr 2
    apply Array.toList_inj.1
    rw [extract_toList]
  | false =>
    have h1 := size_one hT ht ha
    rw [h1] at hl ⊢
    have hlt : o < cs.size := by
      simp only [List.length_take, List.length_drop, Array.length_toList] at hl; omega
    have h2 : cs[o]? = some cs[o] := Array.getElem?_eq_getElem hlt
    have h3 : (cs.toList.drop o).take 1 = [cs[o]] := by
      rw [List.drop_eq_getElem_cons (by simpa using hlt)]; simp
    simp [h2, h3, packV]
theorem fieldK_sound (hT : TabOk P X.T) {t : TypeId} {sa sv : SV} {v : Value} {f : Nat} (ha : SVR X w st.rt g sa v) (hq : fieldK X.T t sa f some = some sv) : ∃ u, (Instr.field t v f).run P w = .ok u w ∧ SVR X w st.rt g sv u := by
  unfold fieldK at hq
  split at hq
  · rename_i fs cs hd
    obtain ⟨fields, h1, h2⟩ := und_st hT hd
    split at hq
    · rename_i ft o hf
      split at hq
      · rename_i hk
        simp only [Bool.and_eq_true, decide_eq_true_eq] at hk
        obtain rfl := Option.some.inj hq
        obtain ⟨fl, h3, h4, h5⟩ := h2 f _ hf
        obtain ⟨vs, rfl, h6⟩ := ha
        have h7 := (h6.drop o).take (X.T.size ft)
        have h8 := run_part (w := w) hT hk.1 (cs := vs) (o := o) (by rw [← h7.length]; exact hk.2)
        refine ⟨_, ?_, SVR.pack hT hk.1 hk.2 h7⟩
        simp [Instr.field, run_underlying h1, h3, asAgg, h4, h5, h8]
      · cases hq
    · cases hq
  · cases hq
theorem run_indexAt_slice (hT : TabOk P X.T) {t e : TypeId} (hd : (X.T.row t).d = .one (.slc e)) (he : (X.T.row e).d.known = true) {b o n c : Nat} {k : IntKind} {i : Int} (hi : inRange i n = true) :
    (Instr.indexAt t (.slice (some ⟨b, o, none⟩) n c) (.int k i)).run P w = .ok (.pointer (some ⟨b, o + i.toNat * X.T.size e, none⟩)) w := by
  obtain ⟨h0, h1, h2⟩ := inRange_spec hi
  simp [Instr.indexAt, asIntOf, run_underlying (und_slc hT hd), h0, h1, run_sizeOf hT he, Addr.add_lit]
theorem run_indexAt_arr (hT : TabOk P X.T) {t e : TypeId} {len : Nat} (hd : (X.T.row t).d = .arr len e) (he : (X.T.row e).d.known = true) {b o : Nat} {k : IntKind} {i : Int} (hi : inRange i len = true) :
    (Instr.indexAt t (.pointer (some ⟨b, o, none⟩)) (.int k i)).run P w = .ok (.pointer (some ⟨b, o + i.toNat * X.T.size e, none⟩)) w := by
  obtain ⟨h0, h1, h2⟩ := inRange_spec hi
  simp [Instr.indexAt, asIntOf, run_underlying (und_arr hT hd), Instr.sureAddr, h0, h1, run_sizeOf hT he, Addr.add_lit]
theorem getD_lt {α : Type} {l : List α} {i : Nat} {d : α} (h : i < l.length) : l[i]? = some (l.getD i d) := by
  rw [List.getD_eq_getElem?_getD, List.getElem?_eq_getElem h]; rfl
/-- An element of a slice that is read. -/
theorem RepR.elem {e : TypeId} {xs : List (List U)} {v : Value} (h : RepR X.T.ct w (okb X w g) (.slc e) (.lst xs) v) {i : Nat} (hi : i < xs.length) :
    ∃ b o c, v = .slice (some ⟨b, o, none⟩) xs.length c ∧ PrR X w g e (xs.getD i []) 0 (.pointer (some ⟨b, o + i * X.T.size e, none⟩)) := by
  cases h with
  | slc e xs A c V hl hm hA hs h =>
    obtain ⟨b, o, rfl, hb, hc⟩ := hA (by omega)
    have hx := getD_lt (d := []) hi
    refine ⟨b, o, c, rfl, b, o + i * X.T.size e, rfl, hb, hs i _ hx, fun j u ct hu hct => ⟨V i j, ?_, h i j _ u ct hx hu hct⟩⟩
    have := hc i j _ hx (lt_of_some hu)
    rw [Nat.add_assoc]; exact this
theorem indexAddrK_sound (hT : TabOk P X.T) (hm : Mem X st w g) {t : TypeId} {sx si sv : SV} {v vi : Value} (hx : SVR X w st.rt g sx v) (hi : SVR X w st.rt g si vi) (hq : indexAddrK X.T st.rt t sx si some = some sv) :
    ∃ u, (Instr.indexAt t v vi).run P w = .ok u w ∧ SVR X w st.rt g sv u := by
  unfold indexAddrK at hq
  split at hq
  · rename_i e k n hd
    obtain rfl : vi = .int k n := hi
    split at hq
    · rename_i e' xs
      split at hq
      · rename_i hh
        obtain ⟨rfl, he⟩ := hh
        cases hr : inRange n xs.length with
        | false => rw [hr] at hq; cases hq
        | true =>
          rw [hr] at hq
          obtain rfl := Option.some.inj hq
          obtain ⟨b, o, c, rfl, h2⟩ := RepR.elem hx (inRange_spec hr).2.2
          exact ⟨_, run_indexAt_slice hT hd he hr, h2⟩
      · cases hq
    · rename_i r p e'
      split at hq
      · rename_i e0' d0' xs hrow
        split at hq
        · rename_i hh
          obtain ⟨rfl, he⟩ := hh
          cases hr : inRange n (getP xs p).length with
          | false => rw [hr] at hq; cases hq
          | true =>
            rw [hr] at hq
            obtain rfl := Option.some.inj hq
            obtain ⟨e0, d, xs', h1, h2, h3⟩ := hx
            obtain ⟨rfl, rfl, rfl⟩ : e0' = e0 ∧ d0' = d ∧ xs = xs' := by rw [hrow] at h1; cases h1; exact ⟨rfl, rfl, rfl⟩
            -- the slice's value
            have hv : ∃ b q n' c, v = .slice (some ⟨b, q, none⟩) n' c ∧ n' = (getP xs p).length := by
              have hlt := (inRange_spec hr).2.2
              have hroot := hm.rt r _ hrow
              rcases h2 with rfl | rfl
              · obtain ⟨h4, -, h6⟩ := h3.nil_inv
                rw [h6]
                cases d0' with
                | true =>
                  have hroot : RepO _ _ _ _ _ _ := hroot
                  generalize g.v r = vv at hroot
                  cases hroot with
                  | row _ _ _ _ cs V lab ho => obtain ⟨b, q, c, hv⟩ := ownsAt_some ho (by show 0 < xs.length; exact Nat.lt_of_le_of_lt (Nat.zero_le _) hlt); exact ⟨b, q, _, c, hv, rfl⟩
                | false =>
                  obtain ⟨cs, V, ho, _⟩ := RepS.ex hroot
                  obtain ⟨b, q, c, hv⟩ := ownsAt_some ho (by show 0 < xs.length; exact Nat.lt_of_le_of_lt (Nat.zero_le _) hlt); exact ⟨b, q, _, c, hv, rfl⟩
              · obtain ⟨F', _, h5⟩ := RepO.at h3 hroot
                generalize getP xs p = ys at *
                cases h5 with
                | row _ _ _ _ cs V lab ho => obtain ⟨b, q, c, hv⟩ := ownsAt_some ho (Nat.lt_of_le_of_lt (Nat.zero_le _) hlt); exact ⟨b, q, _, c, hv, rfl⟩
            obtain ⟨b, q, n', c, rfl, rfl⟩ := hv
            exact ⟨_, by rw [run_indexAt_slice hT hd he hr], e0', d0', xs, b, q, _, c, hrow, h2, h3, (inRange_spec hr).2.2, by rw [Nat.add_zero]⟩
        · cases hq
      · cases hq
    · cases hq
  · rename_i len e k n hd
    obtain rfl : vi = .int k n := hi
    split at hq
    · rename_i r o
      split at hq
      · rename_i he
        cases hr : inRange n len with
        | false => rw [hr] at hq; cases hq
        | true =>
          rw [hr] at hq
          rw [cond_true, fNat_eq] at hq
          have hq : some (SV.bx r (o + n.toNat * X.T.size e)) = some sv := by
            split at hq
            · rename_i h1
              rw [h1, Nat.zero_add, Nat.mul_one]; exact hq
            · exact hq
          obtain rfl := Option.some.inj hq
          obtain ⟨rfl, h2⟩ := hx
          exact ⟨_, run_indexAt_arr hT hd he hr, rfl, h2⟩
      · cases hq
    · cases hq
  · cases hq
theorem strsOf_get : ∀ {cs : List Cl} {ss : List ByteArray} {vs : List Value} {rt : List Root}, strsOf cs = some ss → ClsR X w rt g cs vs → vs = ss.map .string
  | [], ss, [], rt, h, _ => by cases h; rfl
  | .str s :: cs, ss, v :: vs, rt, h, hc => by
    unfold strsOf at h
    obtain ⟨ts, h1, rfl⟩ := Option.map_eq_some_iff.1 h
    obtain rfl : v = .string s := hc.1
    rw [strsOf_get h1 hc.2]; rfl
  | [], _, _ :: _, _, _, hc => hc.elim
  | .str _ :: _, _, [], _, _, hc => hc.elim
  | .int .. :: _, _, _, _, h, _ => by cases h
  | .bool .. :: _, _, _, _, h, _ => by cases h
  | .rd .. :: _, _, _, _, h, _ => by cases h
  | .nil :: _, _, _, _, h, _ => by cases h
  | .al .. :: _, _, _, _, h, _ => by cases h
  | .no :: _, _, _, _, h, _ => by cases h
theorem intsOf_get {k : IntKind} : ∀ {cs : List Cl} {ss : List Int} {vs : List Value} {rt : List Root}, intsOf k cs = some ss → ClsR X w rt g cs vs → vs = ss.map (.int k)
  | [], ss, [], rt, h, _ => by cases h; rfl
  | .int k' s :: cs, ss, v :: vs, rt, h, hc => by
    unfold intsOf at h
    split at h
    · rename_i hk; subst hk
      obtain ⟨ts, h1, rfl⟩ := Option.map_eq_some_iff.1 h
      obtain rfl : v = .int k s := hc.1
      rw [intsOf_get h1 hc.2]; rfl
    · cases h
  | [], _, _ :: _, _, _, hc => hc.elim
  | .int .. :: _, _, [], _, _, hc => hc.elim
  | .str .. :: _, _, _, _, h, _ => by cases h
  | .bool .. :: _, _, _, _, h, _ => by cases h
  | .rd .. :: _, _, _, _, h, _ => by cases h
  | .nil :: _, _, _, _, h, _ => by cases h
  | .al .. :: _, _, _, _, h, _ => by cases h
  | .no :: _, _, _, _, h, _ => by cases h
theorem boolsOf_get : ∀ {cs : List Cl} {ss : List Bool} {vs : List Value} {rt : List Root}, boolsOf cs = some ss → ClsR X w rt g cs vs → vs = ss.map .bool
  | [], ss, [], rt, h, _ => by cases h; rfl
  | .bool s :: cs, ss, v :: vs, rt, h, hc => by
    unfold boolsOf at h
    obtain ⟨ts, h1, rfl⟩ := Option.map_eq_some_iff.1 h
    obtain rfl : v = .bool s := hc.1
    rw [boolsOf_get h1 hc.2]; rfl
  | [], _, _ :: _, _, _, hc => hc.elim
  | .bool _ :: _, _, [], _, _, hc => hc.elim
  | .int .. :: _, _, _, _, h, _ => by cases h
  | .str .. :: _, _, _, _, h, _ => by cases h
  | .rd .. :: _, _, _, _, h, _ => by cases h
  | .nil :: _, _, _, _, h, _ => by cases h
  | .al .. :: _, _, _, _, h, _ => by cases h
  | .no :: _, _, _, _, h, _ => by cases h
theorem indexK_sound (hT : TabOk P X.T) {t : TypeId} {sx si sv : SV} {v vi : Value} (hx : SVR X w st.rt g sx v) (hi : SVR X w st.rt g si vi) (hq : indexK X.T t sx si some = some sv) :
    ∃ u, (Instr.index t v vi).run P w = .ok u w ∧ SVR X w st.rt g sv u := by
  unfold indexK at hq
  split at hq
  · rename_i len e cs k n hd
    obtain rfl : vi = .int k n := hi
    obtain ⟨vs, rfl, hc⟩ := hx
    split at hq
    · rename_i hde
      split at hq
      · rename_i ss hss
        split at hq
        · rename_i hl
          cases hr : inRange n len with
          | false => rw [hr] at hq; cases hq
          | true =>
            rw [hr] at hq
            obtain rfl := Option.some.inj hq
            obtain ⟨h0, h1, h2⟩ := inRange_spec hr
            have hv := strsOf_get hss hc
            have hek : (X.T.row e).d.known = true := by rw [hde]; rfl
            have hag : X.T.agg e = false := by unfold Tabs.agg; rw [hde]; rfl
            have hp := run_part (w := w) hT hek (cs := vs) (o := n.toNat * X.T.size e) (by rw [hv, hl.2]; simp; omega)
            rw [hag] at hp
            refine ⟨_, ?_, rfl⟩
            have hget : ((vs.toList.drop (n.toNat * X.T.size e)).take (X.T.size e)).headD undef = .string (ss.getD n.toNat ByteArray.empty) := by
              rw [hv, hl.2, Nat.mul_one, List.drop_eq_getElem_cons (by simp; omega)]
              simp [List.getD_eq_getElem?_getD, List.getElem?_eq_getElem (show n.toNat < ss.length by omega)]
            simp only [packV, Bool.false_eq_true, if_false, hget] at hp
            simp [Instr.index, asIntOf, run_underlying (und_arr hT hd), h0, h1, run_sizeOf hT hek, hp]
        · cases hq
      · cases hq
    · rename_i k' hde
      split at hq
      · rename_i ss hss
        split at hq
        · rename_i hl
          cases hr : inRange n len with
          | false => rw [hr] at hq; cases hq
          | true =>
            rw [hr] at hq
            obtain rfl := Option.some.inj hq
            obtain ⟨h0, h1, h2⟩ := inRange_spec hr
            have hv := intsOf_get hss hc
            have hek : (X.T.row e).d.known = true := by rw [hde]; rfl
            have hag : X.T.agg e = false := by unfold Tabs.agg; rw [hde]; rfl
            have hp := run_part (w := w) hT hek (cs := vs) (o := n.toNat * X.T.size e) (by rw [hv, hl.2]; simp; omega)
            rw [hag] at hp
            refine ⟨_, ?_, rfl⟩
            have hget : ((vs.toList.drop (n.toNat * X.T.size e)).take (X.T.size e)).headD undef = .int k' (ss.getD n.toNat 0) := by
              rw [hv, hl.2, Nat.mul_one, List.drop_eq_getElem_cons (by simp; omega)]
              simp [List.getD_eq_getElem?_getD, List.getElem?_eq_getElem (show n.toNat < ss.length by omega)]
            simp only [packV, Bool.false_eq_true, if_false, hget] at hp
            simp [Instr.index, asIntOf, run_underlying (und_arr hT hd), h0, h1, run_sizeOf hT hek, hp]
        · cases hq
      · cases hq
    · rename_i hde
      split at hq
      · rename_i ss hss
        split at hq
        · rename_i hl
          cases hr : inRange n len with
          | false => rw [hr] at hq; cases hq
          | true =>
            rw [hr] at hq
            obtain rfl := Option.some.inj hq
            obtain ⟨h0, h1, h2⟩ := inRange_spec hr
            have hv := boolsOf_get hss hc
            have hek : (X.T.row e).d.known = true := by rw [hde]; rfl
            have hag : X.T.agg e = false := by unfold Tabs.agg; rw [hde]; rfl
            have hp := run_part (w := w) hT hek (cs := vs) (o := n.toNat * X.T.size e) (by rw [hv, hl.2]; simp; omega)
            rw [hag] at hp
            refine ⟨_, ?_, rfl⟩
            have hget : ((vs.toList.drop (n.toNat * X.T.size e)).take (X.T.size e)).headD undef = .bool (ss.getD n.toNat false) := by
              rw [hv, hl.2, Nat.mul_one, List.drop_eq_getElem_cons (by simp; omega)]
              simp [List.getD_eq_getElem?_getD, List.getElem?_eq_getElem (show n.toNat < ss.length by omega)]
            simp only [packV, Bool.false_eq_true, if_false, hget] at hp
            simp [Instr.index, asIntOf, run_underlying (und_arr hT hd), h0, h1, run_sizeOf hT hek, hp]
        · cases hq
      · cases hq
    · cases hq
  · rename_i s k n hd
    obtain rfl : vi = .int k n := hi
    obtain rfl : v = .string s := hx
    cases hr : inRange n s.size with
    | false => rw [hr] at hq; cases hq
    | true =>
      rw [hr] at hq
      obtain rfl := Option.some.inj hq
      obtain ⟨h0, h1, h2⟩ := inRange_spec hr
      refine ⟨.int .u8 (s.data.getD n.toNat 0).toNat, ?_, rfl⟩
      have hg : s[n.toNat]? = some (s.data.getD n.toNat 0) := by
        have h3 : n.toNat < s.size := h2
        have h4 : s[n.toNat]? = some s[n.toNat] := getElem?_pos s n.toNat h3
        rw [h4]
        congr 1
        have h5 : n.toNat < s.data.size := h3
        show _ = (if h : n.toNat < s.data.size then s.data[n.toNat] else 0)
        rw [dif_pos h5]; rfl
      simp [Instr.index, asIntOf, run_underlying (und_str hT hd), h0, hg]
  · cases hq
theorem eqCls_vals {rt : List Root} : ∀ {cts : List CT} {xs ys : List Cl} {vs us : List Value} {r : Bool}, ClsR X w rt g xs vs → ClsR X w rt g ys us → eqCls cts xs ys = some r → eqVals cts vs us = some r := by
  intro cts
  induction cts with
  | nil =>
    intro xs ys vs us r hx hy h
    unfold eqCls at h
    split at h <;> first | contradiction | skip
    cases vs with
    | cons => exact hx.elim
    | nil => cases us with
      | cons => exact hy.elim
      | nil => exact h
  | cons t ts ih =>
    intro xs ys vs us r hx hy h
    unfold eqCls at h
    split at h <;> first | contradiction | skip
    · rename_i e
      cases vs with
      | nil => exact hx.elim
      | cons v vs => cases us with
        | nil => exact hy.elim
        | cons u us =>
          obtain rfl : v = .int _ _ := hx.1
          obtain rfl : u = .int _ _ := hy.1
          split at h
          · rename_i hk
            obtain ⟨s, h1, rfl⟩ := Option.map_eq_some_iff.1 h
            cases e
            unfold eqVals
            rw [if_pos hk, ih hx.2 hy.2 h1]; rfl
          · cases h
    · rename_i e
      cases vs with
      | nil => exact hx.elim
      | cons v vs => cases us with
        | nil => exact hy.elim
        | cons u us =>
          obtain rfl : v = .bool _ := hx.1
          obtain rfl : u = .bool _ := hy.1
          obtain ⟨s, h1, rfl⟩ := Option.map_eq_some_iff.1 h
          cases e
          unfold eqVals
          rw [ih hx.2 hy.2 h1]; rfl
    · rename_i e
      cases vs with
      | nil => exact hx.elim
      | cons v vs => cases us with
        | nil => exact hy.elim
        | cons u us =>
          obtain rfl : v = .string _ := hx.1
          obtain rfl : u = .string _ := hy.1
          obtain ⟨s, h1, rfl⟩ := Option.map_eq_some_iff.1 h
          cases e
          unfold eqVals
          rw [ih hx.2 hy.2 h1]; rfl
theorem string_eq (x y : ByteArray) : (x.toList == y.toList) = decide (x = y) := by
  rw [Bool.eq_iff_iff]
  simp only [beq_iff_eq, decide_eq_true_eq, ByteArray.toList_eq]
  constructor
  · intro h
    have h1 : x.data = y.data := Array.toList_inj.1 h
    cases x; cases y
    exact congrArg ByteArray.mk h1
  · rintro rfl; rfl
theorem intBin_sound {b : BinOp} {t : TypeId} {x y : Operand} {k : IntKind} {m n : Int} {sv : SV} {rt : List Root} (hq : intBin b k m n some = some sv) :
    ∃ u, (do eqGuard b t x y (.int k m) (.int k n); binOp b t (.int k m) (.int k n) : Sem Value).run P w = .ok u w ∧ SVR X w rt g sv u := by
  cases b <;> simp only [intBin] at hq <;> try (cases hq; done)
  case add => obtain rfl := Option.some.inj hq; exact ⟨.int k (k.wrap (m + n)), by simp [eqGuard, binOp, Op.intArith], rfl⟩
  case sub => obtain rfl := Option.some.inj hq; exact ⟨.int k (k.wrap (m - n)), by simp [eqGuard, binOp, Op.intArith], rfl⟩
  case mul => obtain rfl := Option.some.inj hq; exact ⟨.int k (k.wrap (m * n)), by simp [eqGuard, binOp, Op.intArith], rfl⟩
  case quo =>
    by_cases hz : n = 0
    · simp [hz] at hq
    · simp only [hz, decide_false, cond_false] at hq
      obtain rfl := Option.some.inj hq
      exact ⟨.int k (k.wrap (m.tdiv n)), by simp [eqGuard, binOp, Op.intDiv, hz], rfl⟩
  case rem =>
    by_cases hz : n = 0
    · simp [hz] at hq
    · simp only [hz, decide_false, cond_false] at hq
      obtain rfl := Option.some.inj hq
      exact ⟨.int k (m.tmod n), by simp [eqGuard, binOp, Op.intDiv, hz], rfl⟩
  case and => obtain rfl := Option.some.inj hq; exact ⟨.int k (andI k m n), by simp [eqGuard, binOp, Op.intBits, andI], rfl⟩
  case xor => obtain rfl := Option.some.inj hq; exact ⟨.int k (xorI k m n), by simp [eqGuard, binOp, Op.intBits, xorI], rfl⟩
  case eql => obtain rfl := Option.some.inj hq; exact ⟨.bool (decide (m = n)), by simp [eqGuard, binOp, Op.intCmp]; rfl, rfl⟩
  case neq => obtain rfl := Option.some.inj hq; exact ⟨.bool (!decide (m = n)), by simp [eqGuard, binOp, Op.intCmp, bne]; rfl, rfl⟩
  case lss => obtain rfl := Option.some.inj hq; exact ⟨.bool (decide (m < n)), by simp [eqGuard, binOp, Op.intCmp], rfl⟩
  case leq => obtain rfl := Option.some.inj hq; exact ⟨.bool (decide (m ≤ n)), by simp [eqGuard, binOp, Op.intCmp], rfl⟩
  case gtr => obtain rfl := Option.some.inj hq; exact ⟨.bool (decide (m > n)), by simp [eqGuard, binOp, Op.intCmp], rfl⟩
  case geq => obtain rfl := Option.some.inj hq; exact ⟨.bool (decide (m ≥ n)), by simp [eqGuard, binOp, Op.intCmp], rfl⟩
theorem binK_sound (hT : TabOk P X.T) (hE : EqOk P X.T eqT) {b : BinOp} {t : TypeId} {x y : Operand} {sx sy sv : SV} {vx vy : Value} (hx : SVR X w st.rt g sx vx) (hy : SVR X w st.rt g sy vy) (hq : binK X.T eqT b t sx sy some = some sv) :
    ∃ u, (do eqGuard b t x y vx vy; binOp b t vx vy : Sem Value).run P w = .ok u w ∧ SVR X w st.rt g sv u := by
  unfold binK at hq
  split at hq
  · rename_i k m k' n
    obtain rfl : vx = .int k m := hx
    obtain rfl : vy = .int k' n := hy
    split at hq
    · rename_i hb; subst hb
      by_cases hn : n < 0
      · simp [hn] at hq
      · simp only [hn, decide_false, cond_false] at hq
        obtain rfl := Option.some.inj hq
        exact ⟨.int k (shrI k m n), by simp [eqGuard, binOp, Op.shift, shrI, hn], rfl⟩
    · split at hq
      · rename_i hk; subst hk
        exact intBin_sound hq
      · cases hq
  · rename_i m n
    obtain rfl : vx = .bool m := hx
    obtain rfl : vy = .bool n := hy
    split at hq
    · rename_i hd
      obtain rfl := Option.some.inj hq
      exact ⟨.bool (m == n), by simp [eqGuard, binOp, run_equal_bool w t m n (und_bool hT hd)], rfl⟩
    · rename_i hd
      obtain rfl := Option.some.inj hq
      exact ⟨.bool (!(m == n)), by simp [eqGuard, binOp, run_equal_bool w t m n (und_bool hT hd)], rfl⟩
    · cases hq
  · rename_i m n
    obtain rfl : vx = .string m := hx
    obtain rfl : vy = .string n := hy
    split at hq
    · cases hz : decide (m.size + n.size ≤ 9223372036854775807) with
      | false => rw [hz] at hq; cases hq
      | true =>
        rw [hz] at hq
        obtain rfl := Option.some.inj hq
        exact ⟨.string (m ++ n), by simp [eqGuard, binOp, run_string_add_sum w m n (of_decide_eq_true hz)], rfl⟩
    · obtain rfl := Option.some.inj hq
      exact ⟨.bool (decide (m = n)), by simp [eqGuard, binOp, Op.stringOp, string_eq], rfl⟩
    · obtain rfl := Option.some.inj hq
      exact ⟨.bool (!decide (m = n)), by simp [eqGuard, binOp, Op.stringOp, string_eq], rfl⟩
    · cases hq
  · rename_i xs ys
    obtain ⟨vs, rfl, h1⟩ := hx
    obtain ⟨us, rfl, h2⟩ := hy
    split at hq
    · rename_i he
      split at hq
      · rename_i r hr
        have h3 := hE t he b x y vs us r (eqCls_vals h1 h2 hr) w
        split at hq
        · obtain rfl := Option.some.inj hq
          exact ⟨_, h3.1 rfl, rfl⟩
        · obtain rfl := Option.some.inj hq
          exact ⟨_, h3.2 rfl, rfl⟩
        · cases hq
      · cases hq
    · cases hq
  · cases hq
theorem capsOf_sound (h : Rel X own0 w0 st a w g) : ∀ {xs : List Operand} {cs : List Cap}, capsOf (ev st) xs = some cs → CapsR X w st.rt g cs (xs.map a.eval)
  | [], cs, hq => by cases hq; trivial
  | x :: xs, cs, hq => by
    unfold capsOf at hq
    split at hq
    · rename_i c cs' h1 h2
      obtain rfl := Option.some.inj hq
      refine ⟨?_, capsOf_sound h h2⟩
      have hx := ev_sound h x
      generalize ev st x = sv at *
      unfold capOf at h1
      split at h1 <;> try (cases h1; done)
      · rename_i hne; obtain rfl := Option.some.inj h1; exact hx.cl hne
      · obtain rfl := Option.some.inj h1; exact hx
      · obtain rfl := Option.some.inj h1; exact hx
    · cases hq
theorem run_sliceBound {k : IntKind} {i : Int} {y : Nat} {code : BoundsCode} (h0 : 0 ≤ i) (h1 : i ≤ y) : (Instr.sliceBound (.int k i) y code).run P w = .ok i.toNat w := by
  simp [Instr.sliceBound, asIntOf, h0, h1]
theorem RepR.sub {e : TypeId} {xs : List (List U)} {A : Option Addr} {n c : Nat} (h : RepR X.T.ct w (okb X w g) (.slc e) (.lst xs) (.slice A n c)) {l m : Nat} (hl : l ≤ m) (hm : m ≤ xs.length) :
    RepR X.T.ct w (okb X w g) (.slc e) (.lst ((xs.drop l).take (m - l))) (.slice (if c = l then A else A.map (·.add (l * X.T.size e))) (m - l) (c - l)) := by
  have hlen : ((xs.drop l).take (m - l)).length = m - l := by rw [List.length_take, List.length_drop]; omega
  have hget : ∀ (i : Nat) x, ((xs.drop l).take (m - l))[i]? = some x → xs[l + i]? = some x := by
    intro i x hx
    rw [List.getElem?_take] at hx
    split at hx
    · rwa [List.getElem?_drop] at hx
    · cases hx
  cases h with
  | slc e xs A c V hc hmx hA hs h =>
    have := RepR.slc (T := X.T.ct) (w := w) (okb := okb X w g) e ((xs.drop l).take (m - l)) (if c = l then A else A.map (·.add (l * X.T.size e))) (c - l) (fun i j => V (l + i) j) (by rw [hlen]; omega) (by rw [hlen]; omega) (fun h0 => ?_) (fun i x hx => hs _ x (hget i x hx)) (fun i j x u ct hx hu hct => h (l + i) j x u ct (hget i x hx) hu hct)
    · rw [hlen] at this; exact this
    · rw [hlen] at h0
      obtain ⟨b, o, rfl, hb, hcell⟩ := hA (by omega)
      refine ⟨b, o + l * X.T.size e, by rw [if_neg (by omega)]; simp [Addr.add_lit], hb, fun i j x hx hj => ?_⟩
      have e1 : (l + i) * (X.T.ct e).length = l * X.T.size e + i * (X.T.ct e).length := Nat.add_mul ..
      rw [← hcell (l + i) j x (hget i x hx) hj, Nat.add_assoc, e1, Nat.add_assoc]
theorem sliceK_sound (hT : TabOk P X.T) (h : Rel X own0 w0 st a w g) {t : TypeId} {sv : SV} {sx : SV} {v : Value} {lo hi : Option Operand} (hx : SVR X w st.rt g sx v)
    (hd : (∃ e xs, sx = .c (.rd e xs) ∧ (X.T.row t).d = .one (.slc e) ∧ (X.T.row e).d.known = true) ∨ (∃ s, sx = .c (.str s) ∧ (X.T.row t).d = .one .str))
    (hq : sliceK sx (lo.map (ev st)) (hi.map (ev st)) some = some sv) : ∃ u, (Instr.sliceAt t v (lo.map a.eval) (hi.map a.eval) none).run P w = .ok u w ∧ SVR X w st.rt g sv u := by
  rcases hd with ⟨e, xs, rfl, hd, he⟩ | ⟨s, rfl, hd⟩
  · obtain ⟨A, c, rfl, hc, hm⟩ := RepR.slc_len hx
    unfold sliceK at hq
    simp only at hq
    split at hq
    · rename_i k1 l k2 m hlo hhi
      cases hz : decide (0 ≤ l ∧ l ≤ m ∧ m ≤ (xs.length : Int)) with
      | false => rw [hz] at hq; cases hq
      | true =>
        rw [hz] at hq
        obtain rfl := Option.some.inj hq
        have hz := of_decide_eq_true hz
        have hb : (Instr.sliceBounds true xs.length c (lo.map a.eval) (hi.map a.eval) none).run P w = .ok (l.toNat, m.toNat, c) w := by
          have h1 : ∀ x, hi = some x → a.eval x = .int k2 m := by
            rintro x rfl
            have := ev_sound h x
            simp only [Option.map_some, Option.getD_some] at hhi
            rw [hhi] at this; exact this
          have h2 : ∀ x, lo = some x → a.eval x = .int k1 l := by
            rintro x rfl
            have := ev_sound h x
            simp only [Option.map_some, Option.getD_some] at hlo
            rw [hlo] at this; exact this
          have h3 : hi = none → m.toNat = xs.length := by
            rintro rfl
            simp only [Option.map_none, Option.getD_none] at hhi
            injection hhi with hh; injection hh with _ hh; omega
          have h4 : lo = none → l.toNat = 0 := by
            rintro rfl
            simp only [Option.map_none, Option.getD_none] at hlo
            injection hlo with hh; injection hh with _ hh; omega
          have hm0 : 0 ≤ m := by omega
          have hmc : m ≤ (c : Int) := by omega
          have hlm : l ≤ (m.toNat : Int) := by omega
          cases hi with
          | none =>
            have h3 := h3 rfl
            cases lo with
            | none => simp [Instr.sliceBounds, h3, h4 rfl]
            | some x => simp [Instr.sliceBounds, h2 x rfl, run_sliceBound hz.1 (h3 ▸ hlm), h3]
          | some y =>
            cases lo with
            | none => simp [Instr.sliceBounds, h1 y rfl, run_sliceBound hm0 hmc, h4 rfl]
            | some x => simp [Instr.sliceBounds, h1 y rfl, run_sliceBound hm0 hmc, h2 x rfl, run_sliceBound hz.1 hlm]
        have hr := RepR.sub hx (l := l.toNat) (m := m.toNat) (by omega) (by omega)
        refine ⟨_, ?_, by have e1 : (m - l).toNat = m.toNat - l.toNat := by omega
                          rw [e1]; exact hr⟩
        simp [Instr.sliceAt, Instr.slice, run_underlying (und_slc hT hd), hb, run_sizeOf hT he]
    · cases hq
  · obtain rfl : v = .string s := hx
    unfold sliceK at hq
    simp only at hq
    split at hq
    · rename_i k1 l k2 m hlo hhi
      cases hz : decide (0 ≤ l ∧ l ≤ m ∧ m ≤ (s.size : Int)) with
      | false => rw [hz] at hq; cases hq
      | true =>
        rw [hz] at hq
        obtain rfl := Option.some.inj hq
        have hz := of_decide_eq_true hz
        have hb : ∃ q, (Instr.sliceBounds false s.size s.size (lo.map a.eval) (hi.map a.eval) none).run P w = .ok (l.toNat, m.toNat, q) w := by
          have h1 : ∀ x, hi = some x → a.eval x = .int k2 m := by
            rintro x rfl
            have := ev_sound h x
            simp only [Option.map_some, Option.getD_some] at hhi
            rw [hhi] at this; exact this
          have h2 : ∀ x, lo = some x → a.eval x = .int k1 l := by
            rintro x rfl
            have := ev_sound h x
            simp only [Option.map_some, Option.getD_some] at hlo
            rw [hlo] at this; exact this
          have h3 : hi = none → m.toNat = s.size := by
            rintro rfl
            simp only [Option.map_none, Option.getD_none] at hhi
            injection hhi with hh; injection hh with _ hh; omega
          have h4 : lo = none → l.toNat = 0 := by
            rintro rfl
            simp only [Option.map_none, Option.getD_none] at hlo
            injection hlo with hh; injection hh with _ hh; omega
          have hm0 : 0 ≤ m := by omega
          have hmc : m ≤ (s.size : Int) := by omega
          have hlm : l ≤ (m.toNat : Int) := by omega
          cases hi with
          | none =>
            have h3 := h3 rfl
            cases lo with
            | none => exact ⟨_, by simp [Instr.sliceBounds, h3, h4 rfl]; rfl⟩
            | some x => exact ⟨_, by simp [Instr.sliceBounds, h2 x rfl, run_sliceBound hz.1 (h3 ▸ hlm), h3]; rfl⟩
          | some y =>
            cases lo with
            | none => exact ⟨_, by simp [Instr.sliceBounds, h1 y rfl, run_sliceBound hm0 hmc, h4 rfl]; rfl⟩
            | some x => exact ⟨_, by simp [Instr.sliceBounds, h1 y rfl, run_sliceBound hm0 hmc, h2 x rfl, run_sliceBound hz.1 hlm]; rfl⟩
        obtain ⟨q, hb⟩ := hb
        refine ⟨_, ?_, rfl⟩
        simp [Instr.sliceAt, Instr.slice, run_underlying (und_str hT hd), hb]
    · cases hq
theorem qK_sound (hT : TabOk P X.T) (hE : EqOk P X.T eqT) (h : Rel X own0 w0 st a w g) (o : Oper) {sv : SV} (hq : qK X.T eqT st.rt (ev st) o.op some = some sv) :
    ∃ v, (execOp a.eval o).run P w = .ok (.value v) w ∧ SVR X w st.rt g sv v := by
  obtain ⟨dst, op, type, pos, after, guard⟩ := o
  have key : ∀ {s : Sem Value} {u : Value}, s.run P w = .ok u w → (do pure (Next.value (← s)) : Sem Next).run P w = .ok (.value u) w := fun hs => by simp [hs]
  cases op <;> simp only [qK] at hq <;> try (cases hq; done)
  case move x => obtain rfl := Option.some.inj hq; exact ⟨_, by simp [execOp], ev_sound h x⟩
  case assign x => obtain rfl := Option.some.inj hq; exact ⟨_, by simp [execOp], ev_sound h x⟩
  case pick c x y =>
    have hc := ev_sound h c
    split at hq
    · rename_i z hz
      rw [hz] at hc
      have hc : a.eval c = .bool z := hc
      cases z with
      | true => obtain rfl := Option.some.inj hq; exact ⟨_, by simp [execOp, hc, asBool], ev_sound h x⟩
      | false => obtain rfl := Option.some.inj hq; exact ⟨_, by simp [execOp, hc, asBool], ev_sound h y⟩
    · cases hq
  case load t x => obtain ⟨u, h1, h2⟩ := loadK_sound hT h.mem (ev_sound h x) hq; exact ⟨u, key h1, h2⟩
  case fieldAddr t x f => obtain ⟨u, h1, h2⟩ := fieldAddrK_sound hT (ev_sound h x) hq; exact ⟨u, key h1, h2⟩
  case field t x f => obtain ⟨u, h1, h2⟩ := fieldK_sound hT (ev_sound h x) hq; exact ⟨u, key h1, h2⟩
  case indexAddr t x i => obtain ⟨u, h1, h2⟩ := indexAddrK_sound hT h.mem (ev_sound h x) (ev_sound h i) hq; exact ⟨u, key h1, h2⟩
  case index t x i => obtain ⟨u, h1, h2⟩ := indexK_sound hT (ev_sound h x) (ev_sound h i) hq; exact ⟨u, key h1, h2⟩
  case binOp b t x y t2 => obtain ⟨u, h1, h2⟩ := binK_sound (x := x) (y := y) hT hE (ev_sound h x) (ev_sound h y) hq; exact ⟨u, key h1, h2⟩
  case unOp u t x =>
    cases u <;> simp only at hq <;> try (cases hq; done)
    all_goals
      have hx := ev_sound h x
      split at hq
      · rename_i hz
        rw [hz] at hx
        obtain rfl := Option.some.inj hq
        have hx : a.eval x = _ := hx
        exact ⟨_, by simp [execOp, Op.unary, hx, Op.intArith], rfl⟩
      · cases hq
  case convert s d x =>
    have hx := ev_sound h x
    split at hq
    · rename_i c k k' n hs hd hz
      rw [hz] at hx
      obtain rfl := Option.some.inj hq
      have hx : a.eval x = .int k' n := hx
      obtain ⟨desc, h1, h2⟩ := und hT hs rfl
      exact ⟨.int k (k.wrap n), by simp [execOp, convert, run_underlying h1, run_underlying (und_int hT hd), hx, Conv.intToInt], rfl⟩
    · cases hq
  case extract x i =>
    have hx := ev_sound h x
    split at hq
    · rename_i vs hz
      rw [hz] at hx
      obtain ⟨us, h1, h2⟩ := hx
      have tup : ∀ (vs : List (Bool × List Cl)) (us : List Value) (i : Nat) (y : Bool × List Cl), TupR X w st.rt g vs us → vs[i]? = some y → ∃ u, us[i]? = some u ∧ (y.1 = true → ∃ cs, u = .agg cs ∧ ClsR X w st.rt g y.2 cs.toList) ∧ (∀ c, y = (false, [c]) → ClR X w st.rt g c u) := by
        intro vs
        induction vs with
        | nil => intro us i y _ hy; simp at hy
        | cons z zs ih =>
          intro us i y ht hy
          obtain ⟨zb, zl⟩ := z
          cases us with
          | nil => cases zb <;> simp [TupR] at ht
          | cons u us =>
            have htl : TupR X w st.rt g zs us := by
              cases zb with
              | true => exact ht.2
              | false =>
                cases zl with
                | nil => exact ht
                | cons c zl => cases zl with
                  | nil => exact ht.2
                  | cons => exact ht
            cases i with
            | zero =>
              simp at hy; subst hy
              refine ⟨u, rfl, fun hb => ?_, fun c hc => ?_⟩
              · simp only at hb; subst hb; exact ht.1
              · injection hc with hb hc; subst hb; subst hc; exact ht.1
            | succ i =>
              obtain ⟨u', h3, h4⟩ := ih us i y htl (by simpa using hy)
              exact ⟨u', by simpa using h3, h4⟩
      split at hq
      · rename_i cs hc
        obtain rfl := Option.some.inj hq
        obtain ⟨u, h3, h4, -⟩ := tup _ _ _ _ h2 hc
        exact ⟨u, by simp [execOp, Instr.extract, h1, (by simpa using h3 : us[i]? = some u)], h4 rfl⟩
      · rename_i c hc
        obtain rfl := Option.some.inj hq
        obtain ⟨u, h3, -, h4⟩ := tup _ _ _ _ h2 hc
        exact ⟨u, by simp [execOp, Instr.extract, h1, (by simpa using h3 : us[i]? = some u)], SVR.ofCl (h4 c rfl)⟩
      · cases hq
    · cases hq
  case makeFunc f first caps =>
    cases f <;> simp only at hq <;> try (cases hq; done)
    rename_i f
    split at hq
    · rename_i cs hf hc
      obtain rfl := Option.some.inj hq
      have hfirst : first = #[] := by cases first; simpa using hf
      subst hfirst
      exact ⟨.func (.func f) #[] (caps.map a.eval), by simp [execOp, Instr.makeFunc], _, rfl, by simpa using capsOf_sound h hc⟩
    · cases hq
  case nilCheck x =>
    have hx := ev_sound h x
    split at hq
    · rename_i r j hz; rw [hz] at hx; obtain rfl := Option.some.inj hq
      exact ⟨a.eval x, by rw [hx.1]; simp [execOp, hx.1], hx⟩
    · rename_i e us j hz; rw [hz] at hx; obtain rfl := Option.some.inj hq
      exact ⟨a.eval x, by obtain ⟨b, off, h1, _⟩ := hx; simp [execOp, h1], hx⟩
    · rename_i r p e i j hz; rw [hz] at hx; obtain rfl := Option.some.inj hq
      exact ⟨a.eval x, by obtain ⟨e0, d, xs, b, q, n, c, _, _, _, _, h1⟩ := hx; simp [execOp, h1], hx⟩
    · cases hq
  case slice t x lo hi mx =>
    cases mx <;> simp only at hq <;> try (cases hq; done)
    have hx := ev_sound h x
    split at hq
    · rename_i e e' xs hd hz
      split at hq
      · rename_i he
        obtain ⟨rfl, he⟩ := he
        rw [hz] at hx
        obtain ⟨u, h1, h2⟩ := sliceK_sound hT h hx (.inl ⟨e, xs, rfl, hd, he⟩) hq
        exact ⟨u, key h1, h2⟩
      · cases hq
    · rename_i s hd hz
      rw [hz] at hx
      obtain ⟨u, h1, h2⟩ := sliceK_sound hT h hx (.inr ⟨s, rfl, hd⟩) hq
      exact ⟨u, key h1, h2⟩
    · cases hq
  case call c =>
    obtain ⟨callee, args, argTypes⟩ := c
    simp only at hq
    split at hq
    · rename_i x t hargs htys
      obtain rfl : args = #[x] := by cases args; simpa using hargs
      obtain rfl : argTypes = #[t] := by cases argTypes; simpa using htys
      have hx := ev_sound h x
      have run1 : ∀ {n : Int}, (Builtin.len_ #[t] type #[a.eval x]).run P w = .ok (.int .i64 n) w → (execOp a.eval ⟨dst, .call ⟨.builtin .len, #[x], #[t]⟩, type, pos, after, guard⟩).run P w = .ok (.value (.int .i64 n)) w := fun hr => by
        simp [execOp, resolve, invoke, builtin, hr]
      split at hq
      · rename_i e hd
        unfold lenK at hq
        split at hq
        · rename_i e' xs hz
          rw [hz] at hx
          obtain rfl := Option.some.inj hq
          obtain ⟨A, c, h1, -⟩ := RepR.slc_len hx
          exact ⟨_, run1 (by simp [Builtin.len_, run_underlying (und_slc hT hd), h1, goInt]), rfl⟩
        · rename_i hz
          rw [hz] at hx
          obtain rfl := Option.some.inj hq
          have h1 : a.eval x = .slice none 0 0 := hx
          exact ⟨_, run1 (by simp [Builtin.len_, run_underlying (und_slc hT hd), h1, goInt]), rfl⟩
        · rename_i r p e' hz
          rw [hz] at hx
          split at hq
          · rename_i e0 d xs hr
            obtain rfl := Option.some.inj hq
            obtain ⟨e0', d', xs', h1, h2⟩ := ClR.al_repr h.mem hx
            obtain ⟨rfl, rfl, rfl⟩ : e0 = e0' ∧ d = d' ∧ xs = xs' := by rw [hr] at h1; cases h1; exact ⟨rfl, rfl, rfl⟩
            obtain ⟨A, c, h3, -⟩ := RepR.slc_len (h2 (fun _ => True) (fun _ _ => trivial) (fun _ _ => trivial))
            exact ⟨_, run1 (by simp [Builtin.len_, run_underlying (und_slc hT hd), h3, goInt]), rfl⟩
          · cases hq
        · cases hq
      · rename_i hd
        split at hq
        · rename_i s hz
          rw [hz] at hx
          obtain rfl := Option.some.inj hq
          have h1 : a.eval x = .string s := hx
          exact ⟨_, run1 (by simp [Builtin.len_, run_underlying (und_str hT hd), h1, goInt]), rfl⟩
        · cases hq
      · cases hq
    · rename_i x y hargs
      obtain rfl : args = #[x, y] := by cases args; simpa using hargs
      have hx := ev_sound h x
      have hy := ev_sound h y
      unfold minMaxK at hq
      split at hq
      · rename_i k m k' n hzx hzy
        rw [hzx] at hx; rw [hzy] at hy
        have hx : a.eval x = .int k m := hx
        have hy : a.eval y = .int k' n := hy
        split at hq
        · obtain rfl := Option.some.inj hq
          refine ⟨.int k (min m n), ?_, rfl⟩
          have : (if n < m then n else m) = min m n := by omega
          simp [execOp, resolve, invoke, builtin, hx, hy, Builtin.min_, Builtin.min2, this]
        · cases hq
      · cases hq
    · rename_i x y hargs
      obtain rfl : args = #[x, y] := by cases args; simpa using hargs
      have hx := ev_sound h x
      have hy := ev_sound h y
      unfold minMaxK at hq
      split at hq
      · rename_i k m k' n hzx hzy
        rw [hzx] at hx; rw [hzy] at hy
        have hx : a.eval x = .int k m := hx
        have hy : a.eval y = .int k' n := hy
        split at hq
        · obtain rfl := Option.some.inj hq
          refine ⟨.int k (max m n), ?_, rfl⟩
          have : (if m < n then n else m) = max m n := by omega
          simp [execOp, resolve, invoke, builtin, hx, hy, Builtin.max_, Builtin.max2, this]
        · cases hq
      · cases hq
    · cases hq
end
end Go.Proofs.Ytlkcpabdpmenpaa.Eng
