/- The evaluator, part 1: data as trees, and how trees lie in memory: read (RepR), owned (RepO). Of no program. -/
import Derived.Below
import Derived.OwnWalk
import Derived.Maps.AppendAt
namespace Go.Proofs.Ytlblehdenhpijaa.Eng
open Go.RowKit
set_option linter.unusedVariables false

/-- What a cell of a type holds. -/
inductive CT where
  | int (k : IntKind) | bool | str | slc (e : TypeId)
  deriving DecidableEq
/-- Data. -/
inductive U where
  | int (n : Int) | bool (b : Bool) | str (s : ByteArray) | lst (xs : List (List U))
def U.toInt : U → Int | .int n => n | _ => 0
def U.toBool : U → Bool | .bool b => b | _ => false
def U.toStr : U → ByteArray | .str s => s | _ => ByteArray.empty
def U.toLst : U → List (List U) | .lst xs => xs | _ => []
abbrev U0 : U := .int 0
@[simp] theorem U.toInt_int (n : Int) : (U.int n).toInt = n := rfl
@[simp] theorem U.toBool_bool (b : Bool) : (U.bool b).toBool = b := rfl
@[simp] theorem U.toStr_str (s : ByteArray) : (U.str s).toStr = s := rfl
@[simp] theorem U.toLst_lst (xs : List (List U)) : (U.lst xs).toLst = xs := rfl
/-- The cells of each type. -/
abbrev Tab := TypeId → List CT

/-- Data that is read: every block that the reading passes is one of okb. -/
inductive RepR (T : Tab) (w : World) (okb : Nat → Prop) : CT → U → Value → Prop
  | int (k : IntKind) (n : Int) : RepR T w okb (.int k) (.int n) (.int k n)
  | bool (b : Bool) : RepR T w okb .bool (.bool b) (.bool b)
  | str (s : ByteArray) : RepR T w okb .str (.str s) (.string s)
  | slc (e : TypeId) (xs : List (List U)) (A : Option Addr) (c : Nat) (V : Nat → Nat → Value) (hl : xs.length ≤ c) (hm : xs.length ≤ 9223372036854775807)
      (hA : 0 < xs.length → ∃ b o, A = some ⟨b, o, none⟩ ∧ okb b ∧ ∀ (i j : Nat) (x : List U), xs[i]? = some x → j < x.length → w.cell? ⟨b, o + (i * (T e).length + j), none⟩ = some (V i j))
      (hs : ∀ (i : Nat) (x : List U), xs[i]? = some x → x.length = (T e).length)
      (h : ∀ (i j : Nat) (x : List U) (u : U) (ct : CT), xs[i]? = some x → x[j]? = some u → (T e)[j]? = some ct → RepR T w okb ct u (V i j)) : RepR T w okb (.slc e) (.lst xs) (.slice A xs.length c)

theorem cell?_of_heap {w w' : World} {b : Nat} (h : w'.heap[b]? = w.heap[b]?) (o : Nat) : w'.cell? ⟨b, o, none⟩ = w.cell? ⟨b, o, none⟩ := by
  unfold World.cell?
  simp only [h]

theorem RepR.imp {T : Tab} {w w' : World} {okb okb' : Nat → Prop} {ct : CT} {u : U} {v : Value} (h : RepR T w okb ct u v) (hb : ∀ b, okb b → okb' b ∧ w'.heap[b]? = w.heap[b]?) : RepR T w' okb' ct u v := by
  induction h with
  | int k n => exact .int k n
  | bool b => exact .bool b
  | str s => exact .str s
  | slc e xs A c V hl hm hA hs h ih =>
    refine .slc e xs A c V hl hm (fun h0 => ?_) hs ih
    obtain ⟨b, o, e1, e2, e3⟩ := hA h0
    exact ⟨b, o, e1, (hb b e2).1, fun i j x hx hj => (cell?_of_heap (hb b e2).2 _).trans (e3 i j x hx hj)⟩

theorem RepR.nil {T : Tab} {w : World} {okb : Nat → Prop} (e : TypeId) (c : Nat) (A : Option Addr) : RepR T w okb (.slc e) (.lst []) (.slice A 0 c) :=
  .slc e [] A c (fun _ _ => undef) (Nat.zero_le _) (by decide) (fun h => absurd h (Nat.lt_irrefl 0)) (fun i x h => by simp at h) (fun i j x u ct h => by simp at h)

/-- Data that is owned: its blocks are of F; 'lab' says to which element's cell a block belongs, so that no two share any. -/
inductive RepO (T : Tab) (w : World) : (Nat → Prop) → CT → U → Value → Prop
  | int (F : Nat → Prop) (k : IntKind) (n : Int) : RepO T w F (.int k) (.int n) (.int k n)
  | bool (F : Nat → Prop) (b : Bool) : RepO T w F .bool (.bool b) (.bool b)
  | str (F : Nat → Prop) (s : ByteArray) : RepO T w F .str (.str s) (.string s)
  | row (F : Nat → Prop) (e : TypeId) (xs : List (List U)) (v : Value) (cs : List Value) (V : Nat → Nat → Value) (lab : Nat → Option (Nat × Nat))
      (ho : w.ownsRow 0 e (T e).length v xs.length cs) (hg : ∀ g, v.ownBlock = some g → F g ∧ lab g = none)
      (hV : ∀ (i j : Nat) (x : List U), xs[i]? = some x → j < x.length → cs[i * (T e).length + j]? = some (V i j))
      (hs : ∀ (i : Nat) (x : List U), xs[i]? = some x → x.length = (T e).length)
      (h : ∀ (i j : Nat) (x : List U) (u : U) (ct : CT), xs[i]? = some x → x[j]? = some u → (T e)[j]? = some ct → RepO T w (fun b => F b ∧ lab b = some (i, j)) ct u (V i j)) : RepO T w F (.slc e) (.lst xs) v

theorem ownsRow_heap {w w' : World} {base : Nat} {e : TypeId} {size : Nat} {v : Value} {n : Nat} {xs : List Value} (h : w.ownsRow base e size v n xs) (hh : ∀ g, v.ownBlock = some g → w'.heap[g]? = w.heap[g]?) : w'.ownsRow base e size v n xs := by
  refine ⟨h.1, ?_⟩
  rcases h.2 with hn | ⟨g, cap, cur, rfl, hb, hg, rest⟩
  · exact .inl hn
  · exact .inr ⟨g, cap, cur, rfl, hb, (hh g rfl).trans hg, rest⟩

theorem ownsRow_slice {w : World} {base : Nat} {e : TypeId} {size : Nat} {v : Value} {n : Nat} {xs : List Value} (h : w.ownsRow base e size v n xs) : ∃ A c, v = .slice A n c ∧ n ≤ c ∧ n ≤ 9223372036854775807 := by
  rcases h.2 with ⟨rfl, rfl⟩ | ⟨g, cap, cur, rfl, hb, hg, h1, h2, rest⟩
  · exact ⟨none, 0, rfl, Nat.le_refl _, by decide⟩
  · exact ⟨_, _, rfl, h1, Nat.le_trans h1 (by simpa [maxLen] using h2)⟩

theorem RepO.imp {T : Tab} {w : World} {F : Nat → Prop} {ct : CT} {u : U} {v : Value} (h : RepO T w F ct u v) : ∀ {w' : World} {F' : Nat → Prop}, (∀ b, F b → F' b ∧ w'.heap[b]? = w.heap[b]?) → RepO T w' F' ct u v := by
  induction h with
  | int F k n => exact fun _ => .int _ k n
  | bool F b => exact fun _ => .bool _ b
  | str F s => exact fun _ => .str _ s
  | row F e xs v cs V lab ho hg hV hs h ih =>
    intro w' F' hF
    exact .row F' e xs v cs V lab (ownsRow_heap ho fun g e => (hF g (hg g e).1).2) (fun g e => ⟨(hF g (hg g e).1).1, (hg g e).2⟩) hV hs (fun i j x u ct hx hu hct => ih i j x u ct hx hu hct (fun b hb => ⟨⟨(hF b hb.1).1, hb.2⟩, (hF b hb.1).2⟩))
theorem RepO.mono {T : Tab} {w : World} {F F' : Nat → Prop} {ct : CT} {u : U} {v : Value} (h : RepO T w F ct u v) (hF : ∀ b, F b → F' b) : RepO T w F' ct u v := h.imp (fun b hb => ⟨hF b hb, rfl⟩)
theorem RepO.frame {T : Tab} {w w' : World} {F : Nat → Prop} {ct : CT} {u : U} {v : Value} (h : RepO T w F ct u v) (hF : ∀ b, F b → w'.heap[b]? = w.heap[b]?) : RepO T w' F ct u v := h.imp (fun b hb => ⟨hb, hF b hb⟩)

theorem RepO.nil {T : Tab} {w : World} {F : Nat → Prop} (e : TypeId) : RepO T w F (.slc e) (.lst []) (.slice none 0 0) :=
  .row F e [] _ [] (fun _ _ => undef) (fun _ => none) (World.ownsRow_nil w 0 e _) (fun g h => by simp [Value.ownBlock] at h) (fun i j x h => by simp at h) (fun i x h => by simp at h) (fun i j x u ct h => by simp at h)

theorem heap_cell {w : World} {g : Nat} {cur : Array Value} {e : TypeId} {z : Nat × Nat} (h : w.heap[g]? = some (.cells cur e z)) (o : Nat) : w.cell? ⟨g, o, none⟩ = cur[o]? := by
  unfold World.cell?
  simp only [h]
  rfl

theorem ownsRow_cell {w : World} {base : Nat} {e : TypeId} {size : Nat} {v : Value} {n : Nat} {xs : List Value} (h : w.ownsRow base e size v n xs) {g : Nat} (hg : v.ownBlock = some g) {j : Nat} {u : Value} (hu : xs[j]? = some u) : w.cell? ⟨g, j, none⟩ = some u := by
  have := h.cells hg j u hu
  rwa [Addr.add_lit, Nat.zero_add] at this
theorem ownsRow_some {w : World} {base : Nat} {e : TypeId} {size : Nat} {v : Value} {n : Nat} {xs : List Value} (h : w.ownsRow base e size v n xs) (hn : 0 < n) : ∃ g c, v = .slice (some ⟨g, 0, none⟩) n c := by
  rcases h.2 with ⟨rfl, h0⟩ | ⟨g, cap, cur, rfl, _⟩
  · omega
  · exact ⟨g, cap, rfl⟩

/-- What is owned is read. -/
theorem RepO.toR {T : Tab} {w : World} {F : Nat → Prop} {ct : CT} {u : U} {v : Value} (h : RepO T w F ct u v) : ∀ {okb : Nat → Prop}, (∀ b, F b → okb b) → RepR T w okb ct u v := by
  induction h with
  | int F k n => exact fun _ => .int k n
  | bool F b => exact fun _ => .bool b
  | str F s => exact fun _ => .str s
  | row F e xs v cs V lab ho hg hV hs h ih =>
    intro okb hF
    obtain ⟨A, c, rfl, hc, hm⟩ := ownsRow_slice ho
    refine .slc e xs A c V hc hm (fun h0 => ?_) hs (fun i j x u ct hx hu hct => ih i j x u ct hx hu hct (fun b hb => hF b hb.1))
    obtain ⟨g, c', hv⟩ := ownsRow_some ho h0
    obtain ⟨rfl, -, rfl⟩ := Value.slice.inj hv
    exact ⟨g, 0, rfl, hF g (hg g rfl).1, fun i j x hx hj => by rw [Nat.zero_add]; exact ownsRow_cell ho rfl (hV i j x hx hj)⟩

/-- A row that is owned, its elements are read. -/
structure RepS (T : Tab) (w : World) (F okb : Nat → Prop) (e : TypeId) (xs : List (List U)) (v : Value) : Prop where
  ex : ∃ (cs : List Value) (V : Nat → Nat → Value), w.ownsRow 0 e (T e).length v xs.length cs ∧ (∀ g, v.ownBlock = some g → F g) ∧
    (∀ (i j : Nat) (x : List U), xs[i]? = some x → j < x.length → cs[i * (T e).length + j]? = some (V i j)) ∧
    (∀ (i : Nat) (x : List U), xs[i]? = some x → x.length = (T e).length) ∧
    (∀ (i j : Nat) (x : List U) (u : U) (ct : CT), xs[i]? = some x → x[j]? = some u → (T e)[j]? = some ct → RepR T w okb ct u (V i j))
theorem RepS.imp {T : Tab} {w w' : World} {F F' okb okb' : Nat → Prop} {e : TypeId} {xs : List (List U)} {v : Value} (h : RepS T w F okb e xs v) (hF : ∀ b, F b → F' b ∧ w'.heap[b]? = w.heap[b]?) (hk : ∀ b, okb b → okb' b ∧ w'.heap[b]? = w.heap[b]?) : RepS T w' F' okb' e xs v := by
  obtain ⟨cs, V, ho, hg, hV, hs, hr⟩ := h.ex
  exact ⟨cs, V, ownsRow_heap ho fun g e => (hF g (hg g e)).2, fun g e => (hF g (hg g e)).1, hV, hs, fun i j x u ct hx hu hct => (hr i j x u ct hx hu hct).imp hk⟩
theorem RepS.toR {T : Tab} {w : World} {F okb : Nat → Prop} {e : TypeId} {xs : List (List U)} {v : Value} (h : RepS T w F okb e xs v) {okb' : Nat → Prop} (hF : ∀ b, F b → okb' b) (hk : ∀ b, okb b → okb' b) : RepR T w okb' (.slc e) (.lst xs) v := by
  obtain ⟨cs, V, ho, hg, hV, hs, hr⟩ := h.ex
  obtain ⟨A, c, rfl, hc, hm⟩ := ownsRow_slice ho
  refine .slc e xs A c V hc hm (fun h0 => ?_) hs (fun i j x u ct hx hu hct => (hr i j x u ct hx hu hct).imp fun b hb => ⟨hk b hb, rfl⟩)
  obtain ⟨g, c', hv⟩ := ownsRow_some ho h0
  obtain ⟨rfl, -, rfl⟩ := Value.slice.inj hv
  exact ⟨g, 0, rfl, hF g (hg g rfl), fun i j x hx hj => by rw [Nat.zero_add]; exact ownsRow_cell ho rfl (hV i j x hx hj)⟩
theorem RepO.toS {T : Tab} {w : World} {F okb : Nat → Prop} {e : TypeId} {xs : List (List U)} {v : Value} (h : RepO T w F (.slc e) (.lst xs) v) (hk : ∀ b, F b → okb b) : RepS T w F okb e xs v := by
  cases h with
  | row _ _ _ _ cs V lab ho hg hV hs h => exact ⟨cs, V, ho, fun g e => (hg g e).1, hV, hs, fun i j x u ct hx hu hct => (h i j x u ct hx hu hct).toR fun b hb => hk b hb.1⟩

/-- The inversions. -/
theorem RepR.int_inv {T : Tab} {w : World} {okb : Nat → Prop} {k : IntKind} {u : U} {v : Value} (h : RepR T w okb (.int k) u v) : u = .int u.toInt ∧ v = .int k u.toInt := by
  cases h
  exact ⟨rfl, rfl⟩
theorem RepR.bool_inv {T : Tab} {w : World} {okb : Nat → Prop} {u : U} {v : Value} (h : RepR T w okb .bool u v) : u = .bool u.toBool ∧ v = .bool u.toBool := by
  cases h
  exact ⟨rfl, rfl⟩
theorem RepR.str_inv {T : Tab} {w : World} {okb : Nat → Prop} {u : U} {v : Value} (h : RepR T w okb .str u v) : u = .str u.toStr ∧ v = .string u.toStr := by
  cases h
  exact ⟨rfl, rfl⟩
theorem RepR.slc_inv {T : Tab} {w : World} {okb : Nat → Prop} {e : TypeId} {u : U} {v : Value} (h : RepR T w okb (.slc e) u v) : u = .lst u.toLst := by
  cases h
  rfl
theorem RepR.slc_len {T : Tab} {w : World} {okb : Nat → Prop} {e : TypeId} {xs : List (List U)} {v : Value} (h : RepR T w okb (.slc e) (.lst xs) v) : ∃ A c, v = .slice A xs.length c ∧ xs.length ≤ c ∧ xs.length ≤ 9223372036854775807 := by
  cases h with
  | slc e xs A c V hl hm => exact ⟨A, c, rfl, hl, hm⟩
theorem RepO.int_inv {T : Tab} {w : World} {F : Nat → Prop} {k : IntKind} {u : U} {v : Value} (h : RepO T w F (.int k) u v) : u = .int u.toInt ∧ v = .int k u.toInt := by
  cases h
  exact ⟨rfl, rfl⟩
theorem RepO.bool_inv {T : Tab} {w : World} {F : Nat → Prop} {u : U} {v : Value} (h : RepO T w F .bool u v) : u = .bool u.toBool ∧ v = .bool u.toBool := by
  cases h
  exact ⟨rfl, rfl⟩
theorem RepO.str_inv {T : Tab} {w : World} {F : Nat → Prop} {u : U} {v : Value} (h : RepO T w F .str u v) : u = .str u.toStr ∧ v = .string u.toStr := by
  cases h
  exact ⟨rfl, rfl⟩
theorem RepO.slc_inv {T : Tab} {w : World} {F : Nat → Prop} {e : TypeId} {u : U} {v : Value} (h : RepO T w F (.slc e) u v) : u = .lst u.toLst := by
  cases h
  rfl
end Go.Proofs.Ytlblehdenhpijaa.Eng
