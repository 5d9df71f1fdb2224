/- The evaluator, part 8: operations that change nothing but their own temporary. Of no program. -/
import Derived.Test.YtlblehdenhpijaaE7
namespace Go.Proofs.Ytlblehdenhpijaa.Eng
open Go.RowKit
set_option linter.unusedVariables false

/-! ### Nothing hangs on what follows -/
section
variable {R : Type}
theorem bind_ite {α β : Type} {c : Prop} [Decidable c] (a b : Option α) (f : α → Option β) : (if c then a else b).bind f = if c then a.bind f else b.bind f := by split <;> rfl
theorem bind_cond {α β : Type} (c : Bool) (a b : Option α) (f : α → Option β) : (bif c then a else b).bind f = bif c then a.bind f else b.bind f := by cases c <;> rfl
theorem loadK_bind (T : Tabs) (rt : List Root) (t : TypeId) (a : SV) (K : SV → Option R) : loadK T rt t a K = (loadK T rt t a some).bind K := by
  unfold loadK
  repeat' split
  all_goals rfl
theorem addrPlus_bind (a : SV) (o : Nat) (K : SV → Option R) : addrPlus a o K = (addrPlus a o some).bind K := by cases a <;> rfl
theorem qK_bind (T : Tabs) (eqT : TypeId → Bool) (rt : List Root) (ρ : Operand → SV) (op : Op) (K : SV → Option R) : qK T eqT rt ρ op K = (qK T eqT rt ρ op some).bind K := by
  cases op <;> simp only [qK]
  case load => exact loadK_bind ..
  case fieldAddr =>
    unfold fieldAddrK
    repeat' split
    all_goals first | rfl | exact addrPlus_bind ..
  case binOp =>
    unfold binK intBin
    repeat' split
    all_goals first | rfl | simp only [bind_cond, Option.bind_none, Option.bind_some]
  all_goals
    try unfold fieldK
    try unfold indexAddrK
    try unfold indexK
    try unfold lenK
    try unfold sliceK
    try unfold minMaxK
    repeat' split
    all_goals first | rfl | contradiction | simp only [bind_cond, Option.bind_none, Option.bind_some]
end

section
variable {P : Program} {X : Ctx} {own0 : Nat → Option Nat} {w0 : World} {st : St} {a : Act} {w : World} {g : Gh}

theorem constCl_ok {rt : List Root} (v : Value) (h : constCl v ≠ .no) : ClR X w rt g (constCl v) v := by
  unfold constCl
  split <;> first | rfl | (exact absurd (by unfold constCl; split <;> first | rfl | simp_all) h)
theorem constCls_ok {rt : List Root} : ∀ (vs : List Value) {xs : List Cl}, constCls vs = some xs → ClsR X w rt g xs vs
  | [], xs, h => by cases h; trivial
  | v :: vs, xs, h => by
    unfold constCls at h
    split at h
    · cases h
    · rename_i hne
      obtain ⟨ys, h1, rfl⟩ := Option.map_eq_some_iff.1 h
      exact ⟨constCl_ok v hne, constCls_ok vs h1⟩
theorem ev_sound (h : Rel X own0 w0 st a w g) (x : Operand) : SVR X w st.rt g (ev st x) (a.eval x) := by
  cases x with
  | tmp t =>
    show SVR X w st.rt g (st.sl.getD t .no) (a.tmps.getD t undef)
    rw [List.getD_eq_getElem?_getD]
    cases hx : st.sl[t]? with
    | none => trivial
    | some sv => exact h.sl t sv hx
  | const v =>
    show SVR X w st.rt g (constSV v) v
    unfold constSV
    split
    · rename_i cs
      split
      · rename_i xs hxs; exact ⟨cs, rfl, constCls_ok _ hxs⟩
      · trivial
    · by_cases hn : constCl v = .no
      · rw [hn]; trivial
      · have h1 := constCl_ok (X := X) (w := w) (g := g) (rt := st.rt) v hn
        generalize constCl v = x at *
        cases x <;> first | exact h1 | trivial
  | global g => trivial
  | func f => exact ⟨#[], rfl, trivial⟩
theorem SVR.cl {rt : List Root} {x : Cl} {v : Value} (h : SVR X w rt g (.c x) v) (hx : x ≠ .no) : ClR X w rt g x v := by
  cases x <;> first | exact h | exact absurd rfl hx
theorem SVR.ofCl {rt : List Root} {x : Cl} {v : Value} (h : ClR X w rt g x v) : SVR X w rt g (.c x) v := by
  cases x <;> first | exact h | trivial

theorem run_isAgg (hT : TabOk P X.T) {t : TypeId} (ht : (X.T.row t).d.known = true) : (isAgg t).run P w = .ok (X.T.agg t) w := by
  obtain ⟨i, desc, h1, h2, h3, h4, h5, h6⟩ := hT.ok t ht
  unfold Tabs.agg TD.isAgg
  unfold descOk at h6
  simp only [isAgg, Sem.run_bind, run_underlying h2, Result.andThen_ok]
  split at h6 <;> first | (cases h6; done) | (simp_all; done) | (simp_all [Sem.run_pure])
theorem run_sizeOf (hT : TabOk P X.T) {t : TypeId} (ht : (X.T.row t).d.known = true) : (sizeOf t).run P w = .ok (X.T.size t) w := by
  obtain ⟨i, desc, h1, h2, h3, h4, h5, h6⟩ := hT.ok t ht
  simp [sizeOf, typeInfo, h1, h3]
def packV (agg : Bool) (cs : List Value) : Value := if agg then .agg cs.toArray else cs.headD undef
theorem size_one (hT : TabOk P X.T) {t : TypeId} (ht : (X.T.row t).d.known = true) (ha : X.T.agg t = false) : X.T.size t = 1 := by
  unfold Tabs.agg at ha
  cases hd : (X.T.row t).d with
  | one c => have := hT.one t c hd; unfold Tabs.size; rw [show (X.T.row t).cts = [c] from this]; rfl
  | st => rw [hd] at ha; cases ha
  | arr => rw [hd] at ha; cases ha
  | other => rw [hd] at ht; cases ht
theorem run_loadAt (hT : TabOk P X.T) {t : TypeId} (ht : (X.T.row t).d.known = true) {b o : Nat} {cs : List Value} (hl : cs.length = X.T.size t) (hc : ∀ (j : Nat) v, cs[j]? = some v → w.cell? ⟨b, o + j, none⟩ = some v) :
    (Instr.loadAt t (.pointer (some ⟨b, o, none⟩))).run P w = .ok (packV (X.T.agg t) cs) w := by
  simp only [Instr.loadAt, Instr.sureAddr, loadVar, Sem.run_bind, Sem.run_pure, Result.andThen_ok, run_isAgg hT ht]
  cases ha : X.T.agg t with
  | true =>
    have hr := run_loadCells_list (P := P) (w := w) ⟨b, o, none⟩ cs (fun j v h => by rw [Addr.add_lit]; exact hc j v h)
    simp only [if_true, Sem.run_bind, run_sizeOf hT ht, Result.andThen_ok, ← hl, hr, Sem.run_pure, packV]
  | false =>
    have h1 := size_one hT ht ha
    rw [h1] at hl
    match cs, hl with
    | [v], _ =>
      have := hc 0 v rfl
      simp [load, Sem.run, packV, this] at *
theorem SVR.pack (hT : TabOk P X.T) {t : TypeId} (ht : (X.T.row t).d.known = true) {xs : List Cl} {cs : List Value} {rt : List Root} (hl : xs.length = X.T.size t) (h : ClsR X w rt g xs cs) : SVR X w rt g (pack (X.T.agg t) xs) (packV (X.T.agg t) cs) := by
  cases ha : X.T.agg t with
  | true => exact ⟨cs.toArray, rfl, by simpa using h⟩
  | false =>
    rw [size_one hT ht ha] at hl
    match xs, cs, h, hl with
    | [x], [v], h, _ => exact SVR.ofCl h.1
theorem ClR.ofU {rt : List Root} {ct : CT} {u : U} {v : Value} (h : RepR X.T.ct w (okb X w g) ct u v) : ClR X w rt g (Cl.ofU ct u) v := by
  cases ct with
  | int k => exact h.int_inv.2
  | bool => exact h.bool_inv.2
  | str => exact h.str_inv.2
  | slc e => have := h.slc_inv; rw [this] at h; exact h
theorem cellsR_get {cts : List CT} {us : List U} {o n i : Nat} {x : Cl} (h : (cellsR cts us o n)[i]? = some x) : i < n ∧ ∃ ct, cts[o + i]? = some ct ∧ x = Cl.ofU ct (us.getD (o + i) U0) := by
  unfold cellsR at h
  rw [List.getElem?_map, List.getElem?_zipIdx] at h
  obtain ⟨y, hy, rfl⟩ := Option.map_eq_some_iff.1 h
  obtain ⟨ct, hct, rfl⟩ := Option.map_eq_some_iff.1 hy
  rw [List.getElem?_take] at hct
  split at hct
  · rename_i hlt
    rw [List.getElem?_drop] at hct
    exact ⟨hlt, ct, hct, rfl⟩
  · cases hct
theorem cellsR_len {cts : List CT} {us : List U} {o n : Nat} : (cellsR cts us o n).length = ((cts.drop o).take n).length := by simp [cellsR]
/-- The cells from b.o on. -/
def cellVals (w : World) (b o n : Nat) : List Value := (List.range n).map fun i => (w.cell? ⟨b, o + i, none⟩).getD undef
theorem cellVals_get {b o n i : Nat} {v : Value} (h : (cellVals w b o n)[i]? = some v) : i < n ∧ v = (w.cell? ⟨b, o + i, none⟩).getD undef := by
  unfold cellVals at h
  rw [List.getElem?_map] at h
  obtain ⟨y, hy, rfl⟩ := Option.map_eq_some_iff.1 h
  obtain ⟨h1, h2⟩ := List.getElem?_eq_some_iff.1 hy
  simp at h1 h2
  subst h2
  exact ⟨h1, rfl⟩
theorem cellVals_len {b o n : Nat} : (cellVals w b o n).length = n := by simp [cellVals]
/-- A row that is read, loaded. -/
theorem PrR.cells {e : TypeId} {us : List U} {o : Nat} {v : Value} {rt : List Root} (h : PrR X w g e us o v) {n : Nat} (hn : (((X.T.ct e).drop o).take n).length = n) :
    ∃ b off, v = .pointer (some ⟨b, off, none⟩) ∧ ClsR X w rt g (cellsR (X.T.ct e) us o n) (cellVals w b off n) ∧ ∀ j u, (cellVals w b off n)[j]? = some u → w.cell? ⟨b, off + j, none⟩ = some u := by
  obtain ⟨b, off, rfl, hb, hl, hc⟩ := h
  have key : ∀ j, j < n → ∃ ct x, (X.T.ct e)[o + j]? = some ct ∧ w.cell? ⟨b, off + o + j, none⟩ = some x ∧ RepR X.T.ct w (okb X w g) ct (us.getD (o + j) U0) x := by
    intro j hj
    rw [List.length_take, List.length_drop] at hn
    have h1 : o + j < (X.T.ct e).length := by omega
    have hu : us[o + j]? = some (us.getD (o + j) U0) := by
      rw [List.getD_eq_getElem?_getD, List.getElem?_eq_getElem (by omega)]; rfl
    have hct := List.getElem?_eq_getElem h1
    obtain ⟨x, h2, h3⟩ := hc (o + j) _ _ hu hct
    exact ⟨_, x, hct, by rw [Nat.add_assoc]; exact h2, h3⟩
  refine ⟨b, off + o, rfl, ?_, ?_⟩
  · refine ClsR.ofGet (by rw [cellsR_len, cellVals_len]; exact hn) fun i x v hx hv => ?_
    obtain ⟨hi, ct, hct, rfl⟩ := cellsR_get hx
    obtain ⟨-, rfl⟩ := cellVals_get hv
    obtain ⟨ct', y, h1, h2, h3⟩ := key i hi
    obtain rfl := Option.some.inj (hct.symm.trans h1)
    rw [h2]; exact ClR.ofU h3
  · intro j u hu
    obtain ⟨hj, rfl⟩ := cellVals_get hu
    obtain ⟨_, y, _, h2, _⟩ := key j hj
    rw [h2]; rfl
theorem cellsO_get {dp : Bool} {r : Nat} {p : Path} {i0 : Nat} {cts : List CT} {us : List U} {o n i : Nat} {x : Cl} (h : (cellsO dp r p i0 cts us o n)[i]? = some x) : i < n ∧ ∃ ct, cts[o + i]? = some ct ∧
    x = (match ct with | .slc e => if dp then .al r (p ++ [(i0, o + i)]) e else .rd e (us.getD (o + i) U0).toLst | ct => Cl.ofU ct (us.getD (o + i) U0)) := by
  unfold cellsO at h
  rw [List.getElem?_map, List.getElem?_zipIdx] at h
  obtain ⟨y, hy, rfl⟩ := Option.map_eq_some_iff.1 h
  obtain ⟨ct, hct, rfl⟩ := Option.map_eq_some_iff.1 hy
  rw [List.getElem?_take] at hct
  split at hct
  · rename_i hlt
    rw [List.getElem?_drop] at hct
    exact ⟨hlt, ct, hct, by cases ct <;> rfl⟩
  · cases hct
theorem cellsO_len {dp : Bool} {r : Nat} {p : Path} {i0 : Nat} {cts : List CT} {us : List U} {o n : Nat} : (cellsO dp r p i0 cts us o n).length = ((cts.drop o).take n).length := by simp [cellsO]
/-- An element of a row of one's own, loaded. -/
theorem po_cells (hm : Mem X st w g) {r : Nat} {p : Path} {e : TypeId} {i o : Nat} {v : Value} {e0 : TypeId} {d : Bool} {xs : List (List U)} (hr : st.rt[r]? = some (.row e0 d xs)) (h : SVR X w st.rt g (.po r p e i o) v) {n : Nat}
    (hn : (((X.T.ct e).drop o).take n).length = n) :
    ∃ b off, v = .pointer (some ⟨b, off, none⟩) ∧ ClsR X w st.rt g (cellsO d r p i (X.T.ct e) ((getP xs p).getD i []) o n) (cellVals w b off n) ∧ ∀ j u, (cellVals w b off n)[j]? = some u → w.cell? ⟨b, off + j, none⟩ = some u := by
  obtain ⟨e0', d', xs', b, n', c, h1, h2, h3, h4, rfl⟩ := h
  obtain ⟨rfl, rfl, rfl⟩ : e0 = e0' ∧ d = d' ∧ xs = xs' := by rw [hr] at h1; cases h1; exact ⟨rfl, rfl, rfl⟩
  have hx : (getP xs p)[i]? = some ((getP xs p).getD i []) := by
    rw [List.getD_eq_getElem?_getD, List.getElem?_eq_getElem h4]; rfl
  have hroot := hm.rt r _ hr
  rw [List.length_take, List.length_drop] at hn
  -- each cell
  have key : ∀ j, j < n → ∃ ct x, (X.T.ct e)[o + j]? = some ct ∧ w.cell? ⟨b, i * X.T.size e + (o + j), none⟩ = some x ∧
      ClR X w st.rt g (match ct with | .slc e => if d then .al r (p ++ [(i, o + j)]) e else .rd e (((getP xs p).getD i []).getD (o + j) U0).toLst | ct => Cl.ofU ct (((getP xs p).getD i []).getD (o + j) U0)) x := by
    intro j hj
    have h5 : o + j < (X.T.ct e).length := by omega
    have hct := List.getElem?_eq_getElem h5
    cases d with
    | true =>
      obtain ⟨F', hF, h6⟩ := RepO.at h3 hroot
      have h6' := h6
      cases h6 with
      | row _ _ _ _ cs V lab ho hg hV hs hh =>
        have hsz := hs i _ hx
        have hu : ((getP xs p).getD i [])[o + j]? = some (((getP xs p).getD i []).getD (o + j) U0) := by
          conv => rhs; rw [List.getD_eq_getElem?_getD]
          rw [List.getElem?_eq_getElem (by omega)]; rfl
        have hcell := ownsRow_cell ho (g := b) rfl (hV i (o + j) _ hx (by omega))
        have hrep := hh i (o + j) _ _ _ hx hu hct
        refine ⟨_, V i (o + j), hct, hcell, ?_⟩
        generalize (X.T.ct e)[o + j] = ct at *
        cases ct with
        | slc e1 =>
          have hl := hrep.slc_inv
          have hA : At X.T.ct w (.slc e0) (.lst xs) (g.v r) (p ++ [(i, o + j)]) (.slc e1) (((getP xs p).getD i []).getD (o + j) U0) (V i (o + j)) :=
            h3.trans (.cons e _ b n' c i (o + j) _ _ _ _ _ _ _ _ hx hu hct hcell (.nil _ _ _))
          refine ⟨e0, true, xs, hr, .inr rfl, ?_⟩
          have hg2 := hA.getP rfl
          rw [hl] at hA
          rw [hg2]; exact hA
        | int k => exact hrep.int_inv.2
        | bool => exact hrep.bool_inv.2
        | str => exact hrep.str_inv.2
    | false =>
      obtain rfl : p = [] := by simpa using h2
      obtain ⟨h7, -, h8⟩ := h3.nil_inv
      obtain rfl := CT.slc.inj h7
      obtain ⟨cs, V, ho, hg, hV, hs, hh⟩ := RepS.ex hroot
      rw [← h8] at ho
      have hsz := hs i _ hx
      have hu : ((getP xs []).getD i [])[o + j]? = some (((getP xs []).getD i []).getD (o + j) U0) := by
        conv => rhs; rw [List.getD_eq_getElem?_getD]
        rw [List.getElem?_eq_getElem (by omega)]; rfl
      have hcell := ownsRow_cell ho (g := b) rfl (hV i (o + j) _ hx (by omega))
      have hrep := hh i (o + j) _ _ _ hx hu hct
      refine ⟨_, V i (o + j), hct, hcell, ?_⟩
      have h9 : ClR X w st.rt g (Cl.ofU (X.T.ct e)[o + j] (((getP xs []).getD i []).getD (o + j) U0)) (V i (o + j)) := ClR.ofU hrep
      generalize (X.T.ct e)[o + j] = ct at *
      cases ct <;> exact h9
  refine ⟨b, i * X.T.size e + o, rfl, ?_, ?_⟩
  · refine ClsR.ofGet (by rw [cellsO_len, cellVals_len, List.length_take, List.length_drop]; exact hn) fun k x v hx hv => ?_
    obtain ⟨hk, ct, hct, rfl⟩ := cellsO_get hx
    obtain ⟨-, rfl⟩ := cellVals_get hv
    obtain ⟨ct', y, h5, h6, h7⟩ := key k hk
    obtain rfl := Option.some.inj (hct.symm.trans h5)
    rw [Nat.add_assoc, h6]; exact h7
  · intro j u hu
    obtain ⟨hj, rfl⟩ := cellVals_get hu
    obtain ⟨_, y, _, h6, _⟩ := key j hj
    rw [Nat.add_assoc, h6]; rfl
theorem loadK_sound (hT : TabOk P X.T) (h : Mem X st w g) {t : TypeId} {sa sv : SV} {v : Value} (ha : SVR X w st.rt g sa v) (hq : loadK X.T st.rt t sa some = some sv) : ∃ u, (Instr.loadAt t v).run P w = .ok u w ∧ SVR X w st.rt g sv u := by
  unfold loadK at hq
  split at hq
  · rename_i ht
    split at hq
    · rename_i r o
      split at hq
      · rename_i t' cs hr
        split at hq
        · rename_i hl
          obtain rfl := Option.some.inj hq
          obtain ⟨vs, h1, h2, h3⟩ := h.rt r _ hr
          obtain ⟨rfl, -⟩ := ha
          have h4 := (h3.drop o).take (X.T.size t)
          refine ⟨_, run_loadAt hT ht (cs := (vs.toList.drop o).take (X.T.size t)) (by rw [← h4.length]; exact hl) (fun j v hv => ?_), SVR.pack hT ht hl h4⟩
          rw [List.getElem?_take] at hv
          split at hv
          · rw [List.getElem?_drop] at hv
            rw [heap_cell h1]; simpa using hv
          · cases hv
        · cases hq
      · cases hq
    · rename_i e us o
      split at hq
      · rename_i hl
        obtain rfl := Option.some.inj hq
        obtain ⟨b, off, rfl, h2, h3⟩ := PrR.cells (rt := st.rt) ha hl
        exact ⟨_, run_loadAt hT ht cellVals_len h3, SVR.pack hT ht (by rw [cellsR_len]; exact hl) h2⟩
      · cases hq
    · rename_i r p e i o
      split at hq
      · rename_i e0 dp xs hr
        split at hq
        · rename_i hl
          obtain rfl := Option.some.inj hq
          obtain ⟨b, off, rfl, h2, h3⟩ := po_cells h hr ha hl
          exact ⟨_, run_loadAt hT ht cellVals_len h3, SVR.pack hT ht (by rw [cellsO_len]; exact hl) h2⟩
        · cases hq
      · cases hq
    · cases hq
  · cases hq
end
end Go.Proofs.Ytlblehdenhpijaa.Eng
