/- The evaluator, part 5: how what is known stands to a machine's state. Of no program. -/
import Derived.Test.YtlblehdenhpijaaE4
namespace Go.Proofs.Ytlblehdenhpijaa.Eng
open Go.RowKit
set_option linter.unusedVariables false

/-- Whose each block is; each root's slice; each box's block. -/
structure Gh where
  own : Nat → Option Nat
  v : Nat → Value
  b : Nat → Nat
/-- What stays the same while a function runs: the types; the old blocks that may be read; how many old blocks there are; so many roots lie behind arguments; their slices; whose old blocks are. -/
structure Ctx where
  T : Tabs
  S : Nat → Prop
  n0 : Nat
  np : Nat
  pv : Nat → Value
  po : Nat → Option Nat
def okb (X : Ctx) (w : World) (g : Gh) (b : Nat) : Prop := g.own b = none ∧ b < w.heap.size ∧ (X.S b ∨ X.n0 ≤ b)

/-- From a slice along a path: at each step an element's cell. -/
inductive At (T : Tab) (w : World) : CT → U → Value → Path → CT → U → Value → Prop
  | nil (ct : CT) (u : U) (v : Value) : At T w ct u v [] ct u v
  | cons (e : TypeId) (xs : List (List U)) (g n c i o : Nat) (x : List U) (u1 : U) (ct1 : CT) (v1 : Value) (p : Path) (ct' : CT) (u' : U) (v' : Value) (hx : xs[i]? = some x) (hu : x[o]? = some u1) (hct : (T e)[o]? = some ct1)
      (hc : w.cell? ⟨g, i * (T e).length + o, none⟩ = some v1) (h : At T w ct1 u1 v1 p ct' u' v') : At T w (.slc e) (.lst xs) (.slice (some ⟨g, 0, none⟩) n c) ((i, o) :: p) ct' u' v'

theorem At.trans {T : Tab} {w : World} {ct ct1 ct2 : CT} {u u1 u2 : U} {v v1 v2 : Value} {p q : Path} (h : At T w ct u v p ct1 u1 v1) (k : At T w ct1 u1 v1 q ct2 u2 v2) : At T w ct u v (p ++ q) ct2 u2 v2 := by
  induction h with
  | nil => exact k
  | cons e xs g n c i o x u1 ct1 v1 p ct' u' v' hx hu hct hc h ih => exact .cons e xs g n c i o x u1 ct1 v1 _ _ _ _ hx hu hct hc (ih k)
theorem getD_of_some {α : Type} {l : List α} {i : Nat} {x d : α} (h : l[i]? = some x) : l.getD i d = x := by
  rw [List.getD_eq_getElem?_getD, h]; rfl
theorem At.nil_inv {T : Tab} {w : World} {ct ct' : CT} {u u' : U} {v v' : Value} (h : At T w ct u v [] ct' u' v') : ct' = ct ∧ u' = u ∧ v' = v := by
  cases h
  exact ⟨rfl, rfl, rfl⟩
theorem At.getP {T : Tab} {w : World} {ct ct' : CT} {u u' : U} {v v' : Value} {p : Path} (h : At T w ct u v p ct' u' v') : ∀ {xs : List (List U)}, u = .lst xs → getP xs p = u'.toLst := by
  induction h with
  | nil ct u v => intro xs h; subst h; rfl
  | cons e xs g n c i o x u1 ct1 v1 p ct' u' v' hx hu hct hc h ih =>
    intro ys hy
    obtain rfl := U.lst.inj hy
    unfold Eng.getP
    rw [getD_of_some hx, getD_of_some hu]
    cases h with
    | nil => cases u1 <;> rfl
    | cons => exact ih rfl
/-- What an own slice's element's cell is. -/
theorem RepO.step {T : Tab} {w : World} {F : Nat → Prop} {e : TypeId} {xs : List (List U)} {g n c i o : Nat} {x : List U} {u1 : U} {ct1 : CT} {v1 : Value} (h : RepO T w F (.slc e) (.lst xs) (.slice (some ⟨g, 0, none⟩) n c)) (hx : xs[i]? = some x) (hu : x[o]? = some u1) (hct : (T e)[o]? = some ct1)
    (hc : w.cell? ⟨g, i * (T e).length + o, none⟩ = some v1) : ∃ F', (∀ b, F' b → F b) ∧ RepO T w F' ct1 u1 v1 := by
  cases h with
  | row F e xs v cs V lab ho hg hV hs h =>
    have hlt : o < x.length := (List.getElem?_eq_some_iff.1 hu).1
    have h1 := ownsRow_cell ho (g := g) rfl (hV i o x hx hlt)
    obtain rfl := Option.some.inj (h1.symm.trans hc)
    exact ⟨_, fun b hb => hb.1, h i o x u1 ct1 hx hu hct⟩
theorem RepO.at {T : Tab} {w : World} {ct ct' : CT} {u u' : U} {v v' : Value} {p : Path} (h : At T w ct u v p ct' u' v') : ∀ {F : Nat → Prop}, RepO T w F ct u v → ∃ F', (∀ b, F' b → F b) ∧ RepO T w F' ct' u' v' := by
  induction h with
  | nil ct u v => exact fun h => ⟨_, fun _ hb => hb, h⟩
  | cons e xs g n c i o x u1 ct1 v1 p ct' u' v' hx hu hct hc h ih =>
    intro F hF
    obtain ⟨F1, h1, h2⟩ := hF.step hx hu hct hc
    obtain ⟨F2, h3, h4⟩ := ih h2
    exact ⟨F2, fun b hb => h1 b (h3 b hb), h4⟩
theorem At.frame {T : Tab} {w w' : World} {ct ct' : CT} {u u' : U} {v v' : Value} {p : Path} (h : At T w ct u v p ct' u' v') : ∀ {F : Nat → Prop}, RepO T w F ct u v → (∀ b, F b → w'.heap[b]? = w.heap[b]?) → At T w' ct u v p ct' u' v' := by
  induction h with
  | nil ct u v => exact fun _ _ => .nil _ _ _
  | cons e xs g n c i o x u1 ct1 v1 p ct' u' v' hx hu hct hc h ih =>
    intro F hF hw
    obtain ⟨F1, h1, h2⟩ := hF.step hx hu hct hc
    have hg : F g := by
      cases hF with
      | row F e xs v cs V lab ho hg hV hs h => exact (hg g rfl).1
    exact .cons e xs g n c i o x u1 ct1 v1 p _ _ _ hx hu hct ((cell?_of_heap (hw g hg) _).trans hc) (ih h2 fun b hb => hw b (h1 b hb))

/-- A cell. -/
def ClR (X : Ctx) (w : World) (rt : List Root) (g : Gh) : Cl → Value → Prop
  | .int k n, v => v = .int k n
  | .bool b, v => v = .bool b
  | .str s, v => v = .string s
  | .rd e xs, v => RepR X.T.ct w (okb X w g) (.slc e) (.lst xs) v
  | .nil, v => v = .slice none 0 0
  | .al r p e, v => ∃ e0 d xs, rt[r]? = some (.row e0 d xs) ∧ (p = [] ∨ d = true) ∧ At X.T.ct w (.slc e0) (.lst xs) (g.v r) p (.slc e) (.lst (getP xs p)) v
  | .no, v => v.oneCell' = true
def ClsR (X : Ctx) (w : World) (rt : List Root) (g : Gh) : List Cl → List Value → Prop
  | [], [] => True
  | x :: xs, v :: vs => ClR X w rt g x v ∧ ClsR X w rt g xs vs
  | _, _ => False
/-- A row of cells that is read. -/
def PrR (X : Ctx) (w : World) (g : Gh) (e : TypeId) (us : List U) (o : Nat) (v : Value) : Prop :=
  ∃ b off, v = .pointer (some ⟨b, off + o, none⟩) ∧ okb X w g b ∧ us.length = (X.T.ct e).length ∧
    ∀ j u ct, us[j]? = some u → (X.T.ct e)[j]? = some ct → ∃ x, w.cell? ⟨b, off + j, none⟩ = some x ∧ RepR X.T.ct w (okb X w g) ct u x
def BxR (rt : List Root) (g : Gh) (r o : Nat) (v : Value) : Prop := v = .pointer (some ⟨g.b r, o, none⟩) ∧ ∃ t cs, rt[r]? = some (.box t cs)
def CapR (X : Ctx) (w : World) (rt : List Root) (g : Gh) : Cap → Value → Prop
  | .c x, v => ClR X w rt g x v
  | .bx r o, v => BxR rt g r o v
  | .pr e us o, v => PrR X w g e us o v
def CapsR (X : Ctx) (w : World) (rt : List Root) (g : Gh) : List Cap → List Value → Prop
  | [], [] => True
  | x :: xs, v :: vs => CapR X w rt g x v ∧ CapsR X w rt g xs vs
  | _, _ => False
def TupR (X : Ctx) (w : World) (rt : List Root) (g : Gh) : List (Bool × List Cl) → List Value → Prop
  | [], [] => True
  | (true, xs) :: ys, v :: vs => (∃ cs, v = .agg cs ∧ ClsR X w rt g xs cs.toList) ∧ TupR X w rt g ys vs
  | (false, [x]) :: ys, v :: vs => ClR X w rt g x v ∧ TupR X w rt g ys vs
  | (false, _) :: ys, v :: vs => TupR X w rt g ys vs
  | _, _ => False
def SVR (X : Ctx) (w : World) (rt : List Root) (g : Gh) : SV → Value → Prop
  | .c .no, _ => True
  | .c x, v => ClR X w rt g x v
  | .ag xs, v => ∃ cs, v = .agg cs ∧ ClsR X w rt g xs cs.toList
  | .bx r o, v => BxR rt g r o v
  | .pr e us o, v => PrR X w g e us o v
  | .po r p e i o, v => ∃ e0 d xs b n c, rt[r]? = some (.row e0 d xs) ∧ (p = [] ∨ d = true) ∧ At X.T.ct w (.slc e0) (.lst xs) (g.v r) p (.slc e) (.lst (getP xs p)) (.slice (some ⟨b, 0, none⟩) n c) ∧ i < (getP xs p).length ∧ v = .pointer (some ⟨b, i * X.T.size e + o, none⟩)
  | .fn f caps, v => ∃ vs, v = .func (.func f) #[] vs ∧ CapsR X w rt g caps vs.toList
  | .tup xs, v => ∃ vs, v = .tuple vs ∧ TupR X w rt g xs vs.toList
  | .ud, v => v = undef
def RootR (X : Ctx) (w : World) (rt : List Root) (g : Gh) (r : Nat) : Root → Prop
  | .box t cs => ∃ vs : Array Value, w.heap[g.b r]? = some (.cells vs t (0, 0)) ∧ g.own (g.b r) = some r ∧ ClsR X w rt g cs vs.toList
  | .row e true xs => RepO X.T.ct w (fun b => g.own b = some r) (.slc e) (.lst xs) (g.v r)
  | .row e false xs => RepS X.T.ct w (fun b => g.own b = some r) (okb X w g) e xs (g.v r)
  | .gone => True
/-- What the world was at the call, and is. -/
structure Fr (own0 : Nat → Option Nat) (w0 w : World) (g : Gh) : Prop where
  os : w.os = w0.os
  tape : w.tape = w0.tape
  output : w.output = w0.output
  size : w0.heap.size ≤ w.heap.size
  block : ∀ b, b < w0.heap.size → own0 b = none → g.own b = none ∧ w.heap[b]? = w0.heap[b]?
structure Mem (X : Ctx) (st : St) (w : World) (g : Gh) : Prop where
  rt : ∀ r x, st.rt[r]? = some x → RootR X w st.rt g r x
  lt : ∀ b, g.own b ≠ none → b < w.heap.size
  ob : ∀ b r, g.own b = some r → r < st.rt.length
  n0 : X.n0 ≤ w.heap.size
  np : st.np = X.np
  nl : X.np ≤ st.rt.length
  pm : ∀ b r, g.own b = some r → X.n0 ≤ b ∨ (r < X.np ∧ X.po b = some r)
  pv : ∀ r, r < X.np → g.v r = X.pv r
structure Rel (X : Ctx) (own0 : Nat → Option Nat) (w0 : World) (st : St) (a : Act) (w : World) (g : Gh) : Prop where
  mem : Mem X st w g
  sz : st.sl.length ≤ a.tmps.size
  sl : ∀ i sv, st.sl[i]? = some sv → SVR X w st.rt g sv (a.tmps.getD i undef)
  df : a.defers = []
  fr : Fr own0 w0 w g

theorem ClsR.length {X : Ctx} {w : World} {rt : List Root} {g : Gh} : ∀ {xs : List Cl} {vs : List Value}, ClsR X w rt g xs vs → xs.length = vs.length
  | [], [], _ => rfl
  | _ :: _, _ :: _, h => by simp [ClsR.length h.2]
  | [], _ :: _, h => h.elim
  | _ :: _, [], h => h.elim
theorem ClsR.get {X : Ctx} {w : World} {rt : List Root} {g : Gh} : ∀ {xs : List Cl} {vs : List Value}, ClsR X w rt g xs vs → ∀ {i : Nat} {x : Cl}, xs[i]? = some x → ∃ v, vs[i]? = some v ∧ ClR X w rt g x v
  | [], [], _, i, x, hx => by simp at hx
  | y :: ys, v :: vs, h, 0, x, hx => by simp at hx; subst hx; exact ⟨v, by simp, h.1⟩
  | y :: ys, v :: vs, h, i + 1, x, hx => by
    obtain ⟨u, h1, h2⟩ := ClsR.get h.2 (i := i) (x := x) (by simpa using hx)
    exact ⟨u, by simpa using h1, h2⟩
  | [], _ :: _, h, _, _, _ => h.elim
  | _ :: _, [], h, _, _, _ => h.elim
theorem ClsR.drop {X : Ctx} {w : World} {rt : List Root} {g : Gh} : ∀ {xs : List Cl} {vs : List Value}, ClsR X w rt g xs vs → ∀ n, ClsR X w rt g (xs.drop n) (vs.drop n)
  | xs, vs, h, 0 => h
  | [], [], _, n + 1 => trivial
  | y :: ys, v :: vs, h, n + 1 => ClsR.drop h.2 n
  | [], _ :: _, h, _ + 1 => h.elim
  | _ :: _, [], h, _ + 1 => h.elim
theorem ClsR.take {X : Ctx} {w : World} {rt : List Root} {g : Gh} : ∀ {xs : List Cl} {vs : List Value}, ClsR X w rt g xs vs → ∀ n, ClsR X w rt g (xs.take n) (vs.take n)
  | xs, vs, h, 0 => by simp [ClsR]
  | [], [], _, n + 1 => trivial
  | y :: ys, v :: vs, h, n + 1 => ⟨h.1, ClsR.take h.2 n⟩
  | [], _ :: _, h, _ + 1 => h.elim
  | _ :: _, [], h, _ + 1 => h.elim
theorem ClsR.set {X : Ctx} {w : World} {rt : List Root} {g : Gh} : ∀ {xs : List Cl} {vs : List Value}, ClsR X w rt g xs vs → ∀ {i x v}, ClR X w rt g x v → ClsR X w rt g (xs.set i x) (vs.set i v)
  | [], [], _, i, x, v, _ => trivial
  | y :: ys, u :: us, h, 0, x, v, hx => ⟨hx, h.2⟩
  | y :: ys, u :: us, h, i + 1, x, v, hx => ⟨h.1, ClsR.set h.2 hx⟩
  | [], _ :: _, h, _, _, _, _ => h.elim
  | _ :: _, [], h, _, _, _, _ => h.elim
theorem ClsR.append {X : Ctx} {w : World} {rt : List Root} {g : Gh} : ∀ {xs ys : List Cl} {vs us : List Value}, ClsR X w rt g xs vs → ClsR X w rt g ys us → ClsR X w rt g (xs ++ ys) (vs ++ us)
  | [], _, [], _, _, k => k
  | y :: ys, _, u :: us, _, h, k => ⟨h.1, ClsR.append h.2 k⟩
  | [], _, _ :: _, _, h, _ => h.elim
  | _ :: _, _, [], _, h, _ => h.elim
theorem ClsR.ofGet {X : Ctx} {w : World} {rt : List Root} {g : Gh} : ∀ {xs : List Cl} {vs : List Value}, xs.length = vs.length → (∀ (i : Nat) (x : Cl) (v : Value), xs[i]? = some x → vs[i]? = some v → ClR X w rt g x v) → ClsR X w rt g xs vs
  | [], [], _, _ => trivial
  | x :: xs, v :: vs, hl, h => ⟨h 0 x v rfl rfl, ClsR.ofGet (by simpa using hl) fun i x v hx hv => h (i + 1) x v (by simpa using hx) (by simpa using hv)⟩
  | [], _ :: _, hl, _ => by simp at hl
  | _ :: _, [], hl, _ => by simp at hl
theorem RepR.one {T : Tab} {w : World} {okb : Nat → Prop} {ct : CT} {u : U} {v : Value} (h : RepR T w okb ct u v) : v.oneCell' = true := by cases h <;> rfl
theorem RepO.one {T : Tab} {w : World} {F : Nat → Prop} {ct : CT} {u : U} {v : Value} (h : RepO T w F ct u v) : v.oneCell' = true := by
  cases h with
  | row _ _ _ _ _ _ _ ho => obtain ⟨A, c, rfl, _⟩ := ownsRow_slice ho; rfl
  | _ => rfl
theorem At.one {T : Tab} {w : World} {e e0 : TypeId} {u u' : U} {v v' : Value} {p : Path} (h : At T w (.slc e0) u v p (.slc e) u' v') (h0 : v.oneCell' = true) {F : Nat → Prop} (hF : p = [] ∨ RepO T w F (.slc e0) u v) : v'.oneCell' = true := by
  rcases hF with rfl | hF
  · obtain ⟨-, -, rfl⟩ := h.nil_inv; exact h0
  · obtain ⟨F', _, h2⟩ := RepO.at h hF
    exact h2.one
theorem RootR.row_one {X : Ctx} {w : World} {rt : List Root} {g : Gh} {r : Nat} {e : TypeId} {d : Bool} {xs : List (List U)} (h : RootR X w rt g r (.row e d xs)) : (g.v r).oneCell' = true := by
  cases d with
  | true => exact RepO.one h
  | false => obtain ⟨cs, V, ho, _⟩ := RepS.ex h; obtain ⟨A, c, hv, _⟩ := ownsRow_slice ho; rw [hv]; rfl
theorem ClR.one {X : Ctx} {st : St} {w : World} {g : Gh} (hm : Mem X st w g) {x : Cl} {v : Value} (h : ClR X w st.rt g x v) : v.oneCell' = true := by
  cases x with
  | al r p e =>
    obtain ⟨e0, d, xs, h1, h2, h3⟩ := h
    have hr := hm.rt r _ h1
    rcases h2 with rfl | rfl
    · obtain ⟨-, -, rfl⟩ := h3.nil_inv; exact hr.row_one
    · exact h3.one (F := fun b => g.own b = some r) hr.row_one (.inr hr)
  | rd e xs => exact RepR.one h
  | no => exact h
  | _ => subst h; rfl
/-- What is at an alias. -/
theorem ClR.al_repr {X : Ctx} {st : St} {w : World} {g : Gh} (hm : Mem X st w g) {r : Nat} {p : Path} {e : TypeId} {v : Value} (h : ClR X w st.rt g (.al r p e) v) : ∃ e0 d xs, st.rt[r]? = some (.row e0 d xs) ∧
    ∀ ok : Nat → Prop, (∀ b, g.own b = some r → ok b) → (∀ b, okb X w g b → ok b) → RepR X.T.ct w ok (.slc e) (.lst (getP xs p)) v := by
  obtain ⟨e0, d, xs, h1, h2, h3⟩ := h
  refine ⟨e0, d, xs, h1, fun ok ho hk => ?_⟩
  have hr := hm.rt r _ h1
  cases d with
  | true =>
    obtain ⟨F', h4, h5⟩ := RepO.at h3 hr
    exact h5.toR fun b hb => ho b (h4 b hb)
  | false =>
    obtain rfl : p = [] := by simpa using h2
    obtain ⟨h4, h5, rfl⟩ := h3.nil_inv
    obtain rfl := CT.slc.inj h4
    exact RepS.toR hr ho hk
end Go.Proofs.Ytlblehdenhpijaa.Eng
