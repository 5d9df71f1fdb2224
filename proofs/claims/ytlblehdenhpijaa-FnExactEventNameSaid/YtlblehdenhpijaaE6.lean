/- The evaluator, part 6: what stays known while memory changes. Of no program. -/
import Derived.Test.YtlblehdenhpijaaE5
namespace Go.Proofs.Ytlblehdenhpijaa.Eng
open Go.RowKit
set_option linter.unusedVariables false

/-- From one state of memory to another: roots of R may have changed; the slices at the roots of B have not moved. -/
structure Keep (X : Ctx) (R B : Nat → Prop) (w : World) (g : Gh) (rt : List Root) (w' : World) (g' : Gh) (rt' : List Root) : Prop where
  rd : ∀ b, okb X w g b → okb X w' g' b ∧ w'.heap[b]? = w.heap[b]?
  ow : ∀ b r, ¬ R r → g.own b = some r → g'.own b = some r ∧ w'.heap[b]? = w.heap[b]?
  vv : ∀ r, r < rt.length → ¬ R r → g'.v r = g.v r
  row : ∀ (r : Nat) e d xs, ¬ R r → rt[r]? = some (.row e d xs) → rt'[r]? = some (.row e d xs)
  box : ∀ (r : Nat) t cs, rt[r]? = some (.box t cs) → g'.b r = g.b r ∧ ∃ cs', rt'[r]? = some (.box t cs')
  base : ∀ r, B r → g'.v r = g.v r ∧ ∀ e d xs, rt[r]? = some (.row e d xs) → ∃ d' xs', rt'[r]? = some (.row e d' xs')

def IsRow (rt : List Root) (r : Nat) : Prop := ∃ e d xs, rt[r]? = some (.row e d xs)
def Cl.avd (R B : Nat → Prop) (rt : List Root) : Cl → Prop
  | .al r p _ => IsRow rt r → ¬ R r ∨ (B r ∧ p = []) | _ => True
def Cap.avd (R B : Nat → Prop) (rt : List Root) : Cap → Prop | .c x => x.avd R B rt | _ => True
def SV.avd (R B : Nat → Prop) (rt : List Root) : SV → Prop
  | .c x => x.avd R B rt | .ag xs => ∀ x ∈ xs, Cl.avd R B rt x | .po r .. => IsRow rt r → ¬ R r | .fn _ caps => ∀ x ∈ caps, Cap.avd R B rt x | .tup vs => ∀ x ∈ vs, ∀ y ∈ x.2, Cl.avd R B rt y | _ => True
def Root.avd (R B : Nat → Prop) (rt : List Root) : Root → Prop | .box _ cs => ∀ x ∈ cs, Cl.avd R B rt x | _ => True

section
variable {X : Ctx} {R B : Nat → Prop} {st : St} {w w' : World} {g g' : Gh} {rt' : List Root}
theorem lt_of_some {α : Type} {l : List α} {i : Nat} {x : α} (h : l[i]? = some x) : i < l.length := (List.getElem?_eq_some_iff.1 h).1

theorem ClR.keep (hm : Mem X st w g) (hK : Keep X R B w g st.rt w' g' rt') {x : Cl} {v : Value} (ha : x.avd R B st.rt) (h : ClR X w st.rt g x v) : ClR X w' rt' g' x v := by
  cases x with
  | rd e xs => exact RepR.imp h hK.rd
  | al r p e =>
    obtain ⟨e0, d, xs, h1, h2, h3⟩ := h
    rcases ha ⟨_, _, _, h1⟩ with ha | ⟨hb, rfl⟩
    · have hv := hK.vv r (lt_of_some h1) ha
      refine ⟨e0, d, xs, hK.row r _ _ _ ha h1, h2, ?_⟩
      rw [hv]
      rcases h2 with rfl | rfl
      · obtain ⟨h4, h5, h6⟩ := h3.nil_inv
        rw [h4, h5, h6]; exact .nil _ _ _
      · exact h3.frame (F := fun b => g.own b = some r) (hm.rt r _ h1) fun b hb => (hK.ow b r ha hb).2
    · obtain ⟨hv, hr⟩ := hK.base r hb
      obtain ⟨d', xs', h7⟩ := hr _ _ _ h1
      obtain ⟨h4, h5, h6⟩ := h3.nil_inv
      refine ⟨e0, d', xs', h7, .inl rfl, ?_⟩
      rw [hv, h4, h6]; exact .nil _ _ _
  | _ => exact h
theorem PrR.keep (hK : Keep X R B w g st.rt w' g' rt') {e : TypeId} {us : List U} {o : Nat} {v : Value} (h : PrR X w g e us o v) : PrR X w' g' e us o v := by
  obtain ⟨b, off, h1, h2, h3, h4⟩ := h
  refine ⟨b, off, h1, (hK.rd b h2).1, h3, fun j u ct hu hct => ?_⟩
  obtain ⟨x, h5, h6⟩ := h4 j u ct hu hct
  exact ⟨x, (cell?_of_heap (hK.rd b h2).2 _).trans h5, h6.imp hK.rd⟩
theorem BxR.keep (hK : Keep X R B w g st.rt w' g' rt') {r o : Nat} {v : Value} (h : BxR st.rt g r o v) : BxR rt' g' r o v := by
  obtain ⟨h1, t, cs, h2⟩ := h
  obtain ⟨h3, cs', h4⟩ := hK.box r t cs h2
  exact ⟨by rw [h3]; exact h1, t, cs', h4⟩
theorem ClsR.keep (hm : Mem X st w g) (hK : Keep X R B w g st.rt w' g' rt') : ∀ {xs : List Cl} {vs : List Value}, (∀ x ∈ xs, Cl.avd R B st.rt x) → ClsR X w st.rt g xs vs → ClsR X w' rt' g' xs vs
  | [], [], _, _ => trivial
  | x :: xs, v :: vs, ha, h => ⟨ClR.keep hm hK (ha x (by simp)) h.1, ClsR.keep hm hK (fun y hy => ha y (by simp [hy])) h.2⟩
  | [], _ :: _, _, h => h.elim
  | _ :: _, [], _, h => h.elim
theorem CapR.keep (hm : Mem X st w g) (hK : Keep X R B w g st.rt w' g' rt') {x : Cap} {v : Value} (ha : x.avd R B st.rt) (h : CapR X w st.rt g x v) : CapR X w' rt' g' x v := by
  cases x with
  | c x => exact ClR.keep hm hK ha h
  | bx r o => exact BxR.keep hK h
  | pr e us o => exact PrR.keep hK h
theorem CapsR.keep (hm : Mem X st w g) (hK : Keep X R B w g st.rt w' g' rt') : ∀ {xs : List Cap} {vs : List Value}, (∀ x ∈ xs, Cap.avd R B st.rt x) → CapsR X w st.rt g xs vs → CapsR X w' rt' g' xs vs
  | [], [], _, _ => trivial
  | x :: xs, v :: vs, ha, h => ⟨CapR.keep hm hK (ha x (by simp)) h.1, CapsR.keep hm hK (fun y hy => ha y (by simp [hy])) h.2⟩
  | [], _ :: _, _, h => h.elim
  | _ :: _, [], _, h => h.elim
theorem TupR.keep (hm : Mem X st w g) (hK : Keep X R B w g st.rt w' g' rt') : ∀ {xs : List (Bool × List Cl)} {vs : List Value}, (∀ x ∈ xs, ∀ y ∈ x.2, Cl.avd R B st.rt y) → TupR X w st.rt g xs vs → TupR X w' rt' g' xs vs
  | [], [], _, _ => trivial
  | (true, xs) :: ys, v :: vs, ha, h => by
    obtain ⟨⟨cs, h1, h2⟩, h3⟩ := h
    exact ⟨⟨cs, h1, ClsR.keep hm hK (ha (true, xs) (by simp)) h2⟩, TupR.keep hm hK (fun y hy => ha y (by simp [hy])) h3⟩
  | (false, [x]) :: ys, v :: vs, ha, h => ⟨ClR.keep hm hK (ha (false, [x]) (by simp) x (by simp)) h.1, TupR.keep hm hK (fun y hy => ha y (by simp [hy])) h.2⟩
  | (false, []) :: ys, v :: vs, ha, h => TupR.keep (xs := ys) hm hK (fun y hy => ha y (by simp [hy])) h
  | (false, x :: y :: zs) :: ys, v :: vs, ha, h => TupR.keep (xs := ys) hm hK (fun y hy => ha y (by simp [hy])) h
  | [], _ :: _, _, h => h.elim
  | (true, _) :: _, [], _, h => h.elim
  | (false, []) :: _, [], _, h => h.elim
  | (false, [_]) :: _, [], _, h => h.elim
  | (false, _ :: _ :: _) :: _, [], _, h => h.elim
theorem SVR.keep (hm : Mem X st w g) (hK : Keep X R B w g st.rt w' g' rt') {x : SV} {v : Value} (ha : x.avd R B st.rt) (h : SVR X w st.rt g x v) : SVR X w' rt' g' x v := by
  cases x with
  | c x =>
    have ha : x.avd R B st.rt := ha
    cases x <;> first | exact trivial | exact ClR.keep hm hK ha h
  | ag xs => obtain ⟨cs, h1, h2⟩ := h; exact ⟨cs, h1, ClsR.keep hm hK ha h2⟩
  | bx r o => exact BxR.keep hK h
  | pr e us o => exact PrR.keep hK h
  | po r p e i o =>
    obtain ⟨e0, d, xs, b, n, c, h1, h2, h3, h4, h5⟩ := h
    have ha := ha ⟨_, _, _, h1⟩
    have hv := hK.vv r (lt_of_some h1) ha
    refine ⟨e0, d, xs, b, n, c, hK.row r _ _ _ ha h1, h2, ?_, h4, h5⟩
    rw [hv]
    rcases h2 with rfl | rfl
    · obtain ⟨h6, h7, h8⟩ := h3.nil_inv
      rw [h6, h7, h8]; exact .nil _ _ _
    · exact h3.frame (F := fun b => g.own b = some r) (hm.rt r _ h1) fun b hb => (hK.ow b r ha hb).2
  | fn f caps => obtain ⟨vs, h1, h2⟩ := h; exact ⟨vs, h1, CapsR.keep hm hK ha h2⟩
  | tup xs => obtain ⟨vs, h1, h2⟩ := h; exact ⟨vs, h1, TupR.keep hm hK ha h2⟩
  | ud => exact h
theorem RootR.keep (hm : Mem X st w g) (hK : Keep X R B w g st.rt w' g' rt') {r : Nat} {x : Root} (hx : st.rt[r]? = some x) (hr : ¬ R r) (ha : x.avd R B st.rt) : RootR X w' rt' g' r x := by
  have h := hm.rt r x hx
  cases x with
  | box t cs =>
    obtain ⟨vs, h1, h2, h3⟩ := h
    have hb := (hK.box r t cs hx).1
    exact ⟨vs, by rw [hb, (hK.ow _ r hr h2).2]; exact h1, by rw [hb]; exact (hK.ow _ r hr h2).1, ClsR.keep hm hK ha h3⟩
  | row e d xs =>
    have hv := hK.vv r (lt_of_some hx) hr
    cases d with
    | true =>
      show RepO _ _ _ _ _ (g'.v r)
      rw [hv]
      exact RepO.imp h fun b hb => hK.ow b r hr hb
    | false =>
      show RepS _ _ _ _ _ _ (g'.v r)
      rw [hv]
      exact RepS.imp h (fun b hb => hK.ow b r hr hb) hK.rd
  | gone => trivial
end

/-! ### Purging -/
section
variable {X : Ctx} {st : St} {w w' : World} {g g' : Gh} {rt0 : List Root}
/-- Of Q nothing is known. -/
def Cl.free (Q : Nat → Prop) : Cl → Prop | .al r _ _ => ¬ Q r | _ => True
def Cap.free (Q : Nat → Prop) : Cap → Prop | .c x => x.free Q | _ => True
def SV.free (Q : Nat → Prop) : SV → Prop
  | .c x => x.free Q | .ag xs => ∀ x ∈ xs, Cl.free Q x | .po r .. => ¬ Q r | .fn _ caps => ∀ x ∈ caps, Cap.free Q x | .tup vs => ∀ x ∈ vs, ∀ y ∈ x.2, Cl.free Q y | _ => True
def Root.free (Q : Nat → Prop) : Root → Prop | .box _ cs => ∀ x ∈ cs, Cl.free Q x | _ => True
def St.free (Q : Nat → Prop) (st : St) : Prop := (∀ x ∈ st.sl, SV.free Q x) ∧ ∀ x ∈ st.rt, Root.free Q x
/-- A predicate on cells, on everything that holds cells. -/
theorem Cl.purge_free {Q : Nat → Prop} {r : Nat} {keep : Bool} {x : Cl} (h : x.free Q) : (x.purge r keep).free Q := by
  cases x <;> try exact h
  simp only [Cl.purge]
  split
  · split
    · exact h
    · trivial
  · exact h
theorem Cl.purge_avd {Q : Nat → Prop} {r : Nat} {keep : Bool} {x : Cl} (h : x.free Q) : (x.purge r keep).avd (fun s => s = r ∨ Q s) (fun s => s = r ∧ keep = true) rt0 := by
  cases x <;> try trivial
  rename_i r' p e
  simp only [Cl.purge]
  split
  · rename_i hr
    split
    · rename_i hk
      simp only [Bool.and_eq_true, List.isEmpty_iff] at hk
      exact fun _ => .inr ⟨⟨hr, hk.1⟩, hk.2⟩
    · trivial
  · rename_i hr
    exact fun _ => .inl fun hh => hh.elim hr h
theorem SV.purge_avd {Q : Nat → Prop} {r : Nat} {keep : Bool} {x : SV} (h : x.free Q) : (x.purge r keep).avd (fun s => s = r ∨ Q s) (fun s => s = r ∧ keep = true) rt0 := by
  cases x with
  | c x => exact Cl.purge_avd h
  | ag xs => intro y hy; obtain ⟨x, hx, rfl⟩ := List.mem_map.1 hy; exact Cl.purge_avd (h x hx)
  | po r' p e i o =>
    simp only [SV.purge]
    split
    · trivial
    · rename_i hr; exact fun _ hh => hh.elim hr h
  | fn f caps =>
    intro y hy
    obtain ⟨x, hx, rfl⟩ := List.mem_map.1 hy
    cases x with
    | c x => exact Cl.purge_avd (h _ hx)
    | _ => trivial
  | tup vs =>
    intro y hy z hz
    obtain ⟨x, hx, rfl⟩ := List.mem_map.1 hy
    obtain ⟨u, hu, rfl⟩ := List.mem_map.1 hz
    exact Cl.purge_avd (h x hx u hu)
  | _ => trivial
theorem Root.purge_avd {Q : Nat → Prop} {r : Nat} {keep : Bool} {x : Root} (h : x.free Q) : (x.purge r keep).avd (fun s => s = r ∨ Q s) (fun s => s = r ∧ keep = true) rt0 := by
  cases x with
  | box t cs => intro y hy; obtain ⟨x, hx, rfl⟩ := List.mem_map.1 hy; exact Cl.purge_avd (h x hx)
  | _ => trivial
theorem Cl.purge_self {r : Nat} {x : Cl} : (x.purge r false).free (fun s => s = r) := by
  cases x <;> try trivial
  simp only [Cl.purge]
  split
  · simp [Cl.free]
  · rename_i hr; exact hr
theorem SV.purge_free {Q : Nat → Prop} {r : Nat} {keep : Bool} {x : SV} (h : x.free Q) : (x.purge r keep).free Q := by
  cases x with
  | c x => exact Cl.purge_free h
  | ag xs => intro y hy; obtain ⟨x, hx, rfl⟩ := List.mem_map.1 hy; exact Cl.purge_free (h x hx)
  | po r' p e i o =>
    simp only [SV.purge]
    split
    · trivial
    · exact h
  | fn f caps =>
    intro y hy
    obtain ⟨x, hx, rfl⟩ := List.mem_map.1 hy
    cases x with
    | c x => exact Cl.purge_free (h _ hx)
    | _ => trivial
  | tup vs =>
    intro y hy z hz
    obtain ⟨x, hx, rfl⟩ := List.mem_map.1 hy
    obtain ⟨u, hu, rfl⟩ := List.mem_map.1 hz
    exact Cl.purge_free (h x hx u hu)
  | _ => exact h
theorem SV.purge_self {r : Nat} {x : SV} : (x.purge r false).free (fun s => s = r) := by
  cases x with
  | c x => exact Cl.purge_self
  | ag xs => intro y hy; obtain ⟨x, hx, rfl⟩ := List.mem_map.1 hy; exact Cl.purge_self
  | po r' p e i o =>
    simp only [SV.purge]
    split
    · trivial
    · rename_i hr; exact hr
  | fn f caps =>
    intro y hy
    obtain ⟨x, hx, rfl⟩ := List.mem_map.1 hy
    cases x with
    | c x => exact Cl.purge_self
    | _ => trivial
  | tup vs =>
    intro y hy z hz
    obtain ⟨x, hx, rfl⟩ := List.mem_map.1 hy
    obtain ⟨u, hu, rfl⟩ := List.mem_map.1 hz
    exact Cl.purge_self
  | _ => trivial
theorem St.purge_free {Q : Nat → Prop} {r : Nat} {keep : Bool} {st : St} (h : st.free Q) : (st.purge r keep).free Q := by
  refine ⟨fun x hx => ?_, fun x hx => ?_⟩
  · obtain ⟨y, hy, rfl⟩ := List.mem_map.1 hx; exact SV.purge_free (h.1 y hy)
  · obtain ⟨y, hy, rfl⟩ := List.mem_map.1 hx
    cases y with
    | box t cs => intro z hz; obtain ⟨u, hu, rfl⟩ := List.mem_map.1 hz; exact Cl.purge_free (h.2 _ hy u hu)
    | _ => trivial
theorem St.purge_self {r : Nat} {st : St} : (st.purge r false).free (fun s => s = r) := by
  refine ⟨fun x hx => ?_, fun x hx => ?_⟩
  · obtain ⟨y, hy, rfl⟩ := List.mem_map.1 hx; exact SV.purge_self
  · obtain ⟨y, hy, rfl⟩ := List.mem_map.1 hx
    cases y with
    | box t cs => intro z hz; obtain ⟨u, hu, rfl⟩ := List.mem_map.1 hz; exact Cl.purge_self
    | _ => trivial
theorem Cl.free_or {Q Q' : Nat → Prop} {x : Cl} (h : x.free Q) (h' : x.free Q') : x.free (fun s => Q s ∨ Q' s) := by
  cases x <;> try trivial
  exact fun hh => hh.elim h h'
theorem SV.free_or {Q Q' : Nat → Prop} {x : SV} (h : x.free Q) (h' : x.free Q') : x.free (fun s => Q s ∨ Q' s) := by
  cases x with
  | c x => exact Cl.free_or h h'
  | ag xs => exact fun y hy => Cl.free_or (h y hy) (h' y hy)
  | po r' p e i o => exact fun hh => hh.elim h h'
  | fn f caps =>
    intro y hy
    cases y with
    | c x => exact Cl.free_or (h _ hy) (h' _ hy)
    | _ => trivial
  | tup vs => exact fun y hy z hz => Cl.free_or (h y hy z hz) (h' y hy z hz)
  | _ => trivial
theorem St.free_or {Q Q' : Nat → Prop} {st : St} (h : st.free Q) (h' : st.free Q') : st.free (fun s => Q s ∨ Q' s) := by
  refine ⟨fun x hx => SV.free_or (h.1 x hx) (h'.1 x hx), fun x hx => ?_⟩
  cases x with
  | box t cs => exact fun y hy => Cl.free_or (h.2 _ hx y hy) (h'.2 _ hx y hy)
  | _ => trivial
theorem SV.free_false (x : SV) : x.free (fun _ => False) := by
  cases x with
  | c x => cases x <;> simp [SV.free, Cl.free]
  | ag xs => intro y _; cases y <;> simp [Cl.free]
  | po => exact id
  | fn f caps => intro y _; rcases y with y | _ | _ <;> try trivial
                 cases y <;> simp [Cap.free, Cl.free]
  | tup vs => intro y _ z _; cases z <;> simp [Cl.free]
  | _ => trivial
theorem St.free_false (st : St) : st.free (fun _ => False) := by
  refine ⟨fun x _ => SV.free_false x, fun x _ => ?_⟩
  cases x with
  | box t cs => intro y _; cases y <;> simp [Cl.free]
  | _ => trivial

theorem ClR.purge (hm : Mem X st w g) {r : Nat} {keep : Bool} {x : Cl} {v : Value} (h : ClR X w st.rt g x v) : ClR X w st.rt g (x.purge r keep) v := by
  cases x <;> try exact h
  rename_i r' p e
  simp only [Cl.purge]
  split
  · split
    · exact h
    · exact h.one hm
  · exact h
theorem ClsR.mapC (f : Cl → Cl) (hf : ∀ x v, ClR X w st.rt g x v → ClR X w st.rt g (f x) v) : ∀ {xs : List Cl} {vs : List Value}, ClsR X w st.rt g xs vs → ClsR X w st.rt g (xs.map f) vs
  | [], [], _ => trivial
  | x :: xs, v :: vs, h => ⟨hf _ _ h.1, ClsR.mapC f hf h.2⟩
  | [], _ :: _, h => h.elim
  | _ :: _, [], h => h.elim
theorem CapsR.mapC (f : Cl → Cl) (hf : ∀ x v, ClR X w st.rt g x v → ClR X w st.rt g (f x) v) : ∀ {xs : List Cap} {vs : List Value}, CapsR X w st.rt g xs vs → CapsR X w st.rt g (xs.map (Cap.mapC f)) vs
  | [], [], _ => trivial
  | .c x :: xs, v :: vs, h => ⟨hf _ _ h.1, CapsR.mapC f hf h.2⟩
  | .bx r o :: xs, v :: vs, h => ⟨h.1, CapsR.mapC f hf h.2⟩
  | .pr e us o :: xs, v :: vs, h => ⟨h.1, CapsR.mapC f hf h.2⟩
  | [], _ :: _, h => h.elim
  | .c _ :: _, [], h => h.elim
  | .bx .. :: _, [], h => h.elim
  | .pr .. :: _, [], h => h.elim
theorem TupR.mapC (f : Cl → Cl) (hf : ∀ x v, ClR X w st.rt g x v → ClR X w st.rt g (f x) v) : ∀ {xs : List (Bool × List Cl)} {vs : List Value}, TupR X w st.rt g xs vs → TupR X w st.rt g (xs.map fun x => (x.1, x.2.map f)) vs
  | [], [], _ => trivial
  | (true, xs) :: ys, v :: vs, h => by
    obtain ⟨⟨cs, h1, h2⟩, h3⟩ := h
    exact ⟨⟨cs, h1, ClsR.mapC f hf h2⟩, TupR.mapC f hf h3⟩
  | (false, [x]) :: ys, v :: vs, h => ⟨hf _ _ h.1, TupR.mapC f hf h.2⟩
  | (false, []) :: ys, v :: vs, h => TupR.mapC (xs := ys) f hf h
  | (false, x :: y :: zs) :: ys, v :: vs, h => TupR.mapC (xs := ys) f hf h
  | [], _ :: _, h => h.elim
  | (true, _) :: _, [], h => h.elim
  | (false, []) :: _, [], h => h.elim
  | (false, [_]) :: _, [], h => h.elim
  | (false, _ :: _ :: _) :: _, [], h => h.elim
theorem SVR.purge (hm : Mem X st w g) {r : Nat} {keep : Bool} {x : SV} {v : Value} (h : SVR X w st.rt g x v) : SVR X w st.rt g (x.purge r keep) v := by
  have hc := fun x v => ClR.purge (X := X) (st := st) (w := w) (g := g) hm (r := r) (keep := keep) (x := x) (v := v)
  cases x with
  | c x =>
    cases x with
    | no => trivial
    | al r' p e =>
      have h1 := hc (.al r' p e) v h
      simp only [SV.purge]
      generalize (Cl.purge r keep (.al r' p e)) = y at h1
      cases y <;> first | trivial | exact h1
    | _ => exact h
  | ag xs => obtain ⟨cs, h1, h2⟩ := h; exact ⟨cs, h1, ClsR.mapC _ hc h2⟩
  | po r' p e i o =>
    simp only [SV.purge]
    split
    · trivial
    · exact h
  | fn f caps => obtain ⟨vs, h1, h2⟩ := h; exact ⟨vs, h1, CapsR.mapC _ hc h2⟩
  | tup xs => obtain ⟨vs, h1, h2⟩ := h; exact ⟨vs, h1, TupR.mapC _ hc h2⟩
  | _ => exact h
/-- Purged, nothing that is known is wrong. -/
theorem Mem.purge (hm : Mem X st w g) (r : Nat) (keep : Bool) : Mem X (st.purge r keep) w g := by
  have hrt : ∀ (i : Nat), (st.purge r keep).rt[i]? = (st.rt[i]?).map (Root.purge r keep) := fun i => List.getElem?_map
  have hrow : ∀ (i : Nat) e d xs, st.rt[i]? = some (.row e d xs) → (st.purge r keep).rt[i]? = some (.row e d xs) := fun i e d xs h => by rw [hrt, h]; rfl
  have hK : Keep X (fun _ => False) (fun _ => False) w g st.rt w g (st.purge r keep).rt := by
    refine ⟨fun b hb => ⟨hb, rfl⟩, fun b r _ hb => ⟨hb, rfl⟩, fun _ _ _ => rfl, fun i e d xs _ h => hrow i e d xs h, fun i t cs h => ⟨rfl, _, by rw [hrt, h]; rfl⟩, fun _ h => h.elim⟩
  have hav : ∀ x : Root, x.avd (fun _ => False) (fun _ => False) st.rt := fun x => by
    cases x with
    | box t cs => intro y _; cases y <;> simp [Cl.avd]
    | _ => trivial
  refine ⟨fun i x hx => ?_, hm.lt, fun b s hb => by show s < (st.rt.map _).length; rw [List.length_map]; exact hm.ob b s hb, hm.n0, hm.np, by show X.np ≤ (st.rt.map _).length; rw [List.length_map]; exact hm.nl, hm.pm, hm.pv⟩
  rw [hrt] at hx
  obtain ⟨y, hy, rfl⟩ := Option.map_eq_some_iff.1 hx
  have h := RootR.keep hm hK hy (fun h => h) (hav y)
  cases y with
  | box t cs =>
    obtain ⟨vs, h1, h2, h3⟩ := hm.rt i _ hy
    exact ⟨vs, h1, h2, ClsR.keep hm hK (fun y _ => by cases y <;> simp [Cl.avd]) (ClsR.mapC _ (fun x v => ClR.purge hm) h3)⟩
  | row e d xs => cases d <;> exact h
  | gone => trivial
theorem SVR.purged (hm : Mem X st w g) {r : Nat} {keep : Bool} {x : SV} {v : Value} (h : SVR X w st.rt g x v) : SVR X w (st.purge r keep).rt g (x.purge r keep) v := by
  have hrt : ∀ (i : Nat), (st.purge r keep).rt[i]? = (st.rt[i]?).map (Root.purge r keep) := fun i => List.getElem?_map
  have hK : Keep X (fun _ => False) (fun _ => False) w g st.rt w g (st.purge r keep).rt := by
    refine ⟨fun b hb => ⟨hb, rfl⟩, fun b r _ hb => ⟨hb, rfl⟩, fun _ _ _ => rfl, fun i e d xs _ h => by rw [hrt, h]; rfl, fun i t cs h => ⟨rfl, _, by rw [hrt, h]; rfl⟩, fun _ h => h.elim⟩
  refine SVR.keep hm hK ?_ (SVR.purge hm h)
  generalize x.purge r keep = y
  cases y with
  | c x => cases x <;> simp [SV.avd, Cl.avd]
  | ag xs => intro y _; cases y <;> simp [Cl.avd]
  | po => exact fun _ => id
  | fn f caps => intro y _; rcases y with y | _ | _ <;> try trivial
                 cases y <;> simp [Cap.avd, Cl.avd]
  | tup vs => intro y _ z _; cases z <;> simp [Cl.avd]
  | _ => trivial
end
end Go.Proofs.Ytlblehdenhpijaa.Eng
