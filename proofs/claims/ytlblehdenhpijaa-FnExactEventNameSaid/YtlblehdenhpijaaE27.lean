/- The evaluator, part 27: into a call and out of it. Of no program. -/
import Derived.Test.YtlblehdenhpijaaE26
namespace Go.Proofs.Ytlblehdenhpijaa.Eng
open Go.RowKit
set_option linter.unusedVariables false

abbrev Link := Root × Option (Nat × Path)
section
variable {P : Program} {X X' : Ctx} {own0 : Nat → Option Nat} {w0 : World} {st : St} {a : Act} {w w' : World} {g g' : Gh} {R : Type}

theorem LinksOk.get {X : Ctx} {st : St} {w : World} {g : Gh} : ∀ {ls : List Link} {vs : List Value}, LinksOk X st w g ls vs → ∀ {k : Nat} {l : Link}, ls[k]? = some l → ∃ v, vs[k]? = some v ∧ LinkOk X st w g l v
  | [], [], _, k, l, h => by simp at h
  | l :: ls, v :: vs, h, 0, l', hl => by simp at hl; subst hl; exact ⟨v, rfl, h.1⟩
  | l :: ls, v :: vs, h, k + 1, l', hl => by
    obtain ⟨v', h1, h2⟩ := LinksOk.get h.2 (k := k) (l := l') (by simpa using hl)
    exact ⟨v', by simpa using h1, h2⟩
  | [], _ :: _, h, _, _, _ => h.elim
  | _ :: _, [], h, _, _, _ => h.elim
theorem linkRoots_inj : ∀ {ls : List (Option (Nat × Path))} {i j r : Nat} {p q : Path}, (linkRoots ls).Nodup → ls[i]? = some (some (r, p)) → ls[j]? = some (some (r, q)) → i = j
  | [], i, j, r, p, q, _, hi, _ => by simp at hi
  | none :: ls, 0, j, r, p, q, hn, hi, hj => by simp at hi
  | none :: ls, i + 1, 0, r, p, q, hn, hi, hj => by simp at hj
  | none :: ls, i + 1, j + 1, r, p, q, hn, hi, hj => by
    have := linkRoots_inj (ls := ls) (i := i) (j := j) hn (by simpa using hi) (by simpa using hj)
    omega
  | some (s, t) :: ls, i, j, r, p, q, hn, hi, hj => by
    have hL : linkRoots (some (s, t) :: ls) = s :: linkRoots ls := rfl
    rw [hL] at hn
    obtain ⟨hn1, hn2⟩ := List.nodup_cons.1 hn
    have mem : ∀ {k : Nat} {q : Path}, ls[k]? = some (some (r, q)) → r ∈ linkRoots ls := fun hk => List.mem_filterMap.2 ⟨_, List.mem_of_getElem? hk, rfl⟩
    cases i with
    | zero =>
      simp at hi
      obtain ⟨rfl, rfl⟩ := hi
      cases j with
      | zero => rfl
      | succ j => exact absurd (mem (by simpa using hj)) hn1
    | succ i =>
      cases j with
      | zero =>
        simp at hj
        obtain ⟨rfl, rfl⟩ := hj
        exact absurd (mem (by simpa using hi)) hn1
      | succ j =>
        have := linkRoots_inj (ls := ls) (i := i) (j := j) hn2 (by simpa using hi) (by simpa using hj)
        omega
/-- What lies behind link k. -/
def Behind (X : Ctx) (st : St) (w : World) (g : Gh) (ls : List Link) (lv : List Value) (k : Nat) (Fp : Nat → Prop) : Prop :=
  (∀ b, Fp b → ∃ x r p, ls[k]? = some (x, some (r, p)) ∧ g.own b = some r) ∧
  ∀ e d r p v, ls[k]? = some (.row e true d, some (r, p)) → lv[k]? = some v → RepO X.T.ct w Fp (.slc e) (.lst d) v ∧
    ∀ e0 xs, st.rt[r]? = some (.row e0 true xs) → ∀ (w' : World) (N : Nat → Prop) (ys : List (List U)), RepO X.T.ct w' N (.slc e) (.lst ys) v → (∀ b, g.own b = some r → ¬ Fp b → w'.heap[b]? = w.heap[b]?) → (∀ b, N b → Fp b ∨ ¬ g.own b = some r) →
      RepO X.T.ct w' (fun b => (g.own b = some r ∧ ¬ Fp b) ∨ N b) (.slc e0) (.lst (setP xs p ys)) (g.v r)
theorem behind (hm : Mem X st w g) {ls : List Link} {lv : List Value} (hl : LinksOk X st w g ls lv) (k : Nat) : ∃ Fp, Behind X st w g ls lv k Fp := by
  cases hk : ls[k]? with
  | none => exact ⟨fun _ => False, fun _ h => h.elim, fun e d r p v h => by rw [hk] at h; cases h⟩
  | some l =>
    obtain ⟨x, o⟩ := l
    cases o with
    | none => exact ⟨fun _ => False, fun _ h => h.elim, fun e d r p v h => by rw [hk] at h; cases h⟩
    | some rp =>
      obtain ⟨r, p⟩ := rp
      obtain ⟨v, h1, e, d, h2, h3⟩ := hl.get hk
      rcases h3 with ⟨h3, _⟩ | ⟨r', p', e0, xs, h3, h4, h5, h6⟩
      · cases h3
      · obtain ⟨rfl, rfl⟩ : r = r' ∧ p = p' := by cases h3; exact ⟨rfl, rfl⟩
        have hx : x = .row e true d := h2
        subst hx
        have hr : RepO X.T.ct w (fun b => g.own b = some r) (.slc e0) (.lst xs) (g.v r) := hm.rt r _ h4
        obtain ⟨Fp, f1, f2, f3⟩ := RepO.focus' h6 hr
        refine ⟨Fp, fun b hb => ⟨_, r, p, hk, f1 b hb⟩, fun e' d' r' p' v' hk' hv' => ?_⟩
        rw [hk] at hk'
        cases hk'
        rw [h1] at hv'
        cases hv'
        refine ⟨f2, fun e0' xs' hx' w' N ys hN hw hd => ?_⟩
        rw [h4] at hx'
        cases hx'
        have := f3 w' N ys (fun e' he => by obtain rfl := CT.slc.inj he; exact hN) ⟨_, rfl⟩ hw hd
        by_cases hp : p = []
        · subst hp
          rw [if_pos rfl] at this
          exact this
        · rw [if_neg hp] at this
          exact this
/-- Whose the blocks are in the callee's eyes. -/
theorem own_in (hm : Mem X st w g) {ls : List Link} {lv : List Value} (hl : LinksOk X st w g ls lv) (hn : (linkRoots (ls.map (·.2))).Nodup) :
    ∃ own : Nat → Option Nat, ∀ k, Behind X st w g ls lv k (fun b => own b = some k) := by
  classical
  let F : Nat → Nat → Prop := fun k => Classical.choose (behind hm hl k)
  have hF : ∀ k, Behind X st w g ls lv k (F k) := fun k => Classical.choose_spec (behind hm hl k)
  have huniq : ∀ {k k' b}, F k b → F k' b → k = k' := by
    intro k k' b h1 h2
    obtain ⟨x, r, p, q1, q2⟩ := (hF k).1 b h1
    obtain ⟨x', r', p', q3, q4⟩ := (hF k').1 b h2
    obtain rfl : r = r' := Option.some.inj (q2.symm.trans q4)
    exact linkRoots_inj (ls := ls.map (·.2)) (p := p) (q := p') hn (by rw [List.getElem?_map, q1]; rfl) (by rw [List.getElem?_map, q3]; rfl)
  refine ⟨fun b => if h : ∃ k, F k b then some (Classical.choose h) else none, fun k => ?_⟩
  have e : (fun b => (if h : ∃ k, F k b then some (Classical.choose h) else none) = some k) = F k := by
    funext b
    rw [eq_iff_iff]
    constructor
    · intro h
      split at h
      · rename_i hh
        have := Classical.choose_spec hh
        rw [Option.some.inj h] at this
        exact this
      · cases h
    · intro h
      have hh : ∃ k, F k b := ⟨k, h⟩
      rw [dif_pos hh]
      exact congrArg some (huniq (Classical.choose_spec hh) h)
  rw [e]; exact hF k
/-- The callee's beginning. -/
theorem mem_in (hm : Mem X st w g) {ls : List Link} {lv : List Value} (hl : LinksOk X st w g ls lv) {own : Nat → Option Nat} (ho : ∀ k, Behind X st w g ls lv k (fun b => own b = some k)) (S' : Nat → Prop) (svs : List SV) :
    Mem ⟨X.T, S', w.heap.size, ls.length, fun i => lv.getD i undef, own⟩ ⟨svs, ls.map (·.1), (ls.map (·.1)).length⟩ w ⟨own, fun i => lv.getD i undef, fun _ => 0⟩ := by
  have hown : ∀ {b i}, own b = some i → ∃ x r p, ls[i]? = some (x, some (r, p)) ∧ g.own b = some r := fun h => (ho _).1 _ h
  refine ⟨fun i x hx => ?_, fun b hb => ?_, fun b i hb => ?_, Nat.le_refl _, by simp, by simp, fun b i hb => ?_, fun i _ => rfl⟩
  · have hx : (ls.map (·.1))[i]? = some x := hx
    rw [List.getElem?_map] at hx
    obtain ⟨l, hk, rfl⟩ := Option.map_eq_some_iff.1 hx
    obtain ⟨v, h1, e, d, h2, h3⟩ := hl.get hk
    obtain ⟨y, o⟩ := l
    have hy : y = .row e true d := h2
    subst hy
    show RepO X.T.ct w (fun b => own b = some i) (.slc e) (.lst d) (lv.getD i undef)
    rw [getD_of_some h1]
    rcases h3 with ⟨h4, rfl, rfl⟩ | ⟨r, p, e0, xs, h4, h5, h6, h7⟩
    · exact RepO.nil e
    · have h4 : o = some (r, p) := h4
      subst h4
      exact ((ho i).2 e d r p v hk h1).1
  · have hb : own b ≠ none := hb
    cases hc : own b with
    | none => exact absurd hc hb
    | some i =>
      obtain ⟨x, r, p, _, h2⟩ := hown hc
      exact hm.lt b (by rw [h2]; simp)
  · obtain ⟨x, r, p, h1, _⟩ := hown hb
    show i < (ls.map (·.1)).length
    rw [List.length_map]; exact lt_of_some h1
  · obtain ⟨x, r, p, h1, _⟩ := hown hb
    exact .inr ⟨lt_of_some h1, hb⟩
theorem msRoots_get : ∀ {ps : List TypeId} {ms : List (List (List U))} {k : Nat} {e : TypeId}, ps[k]? = some e → (msRoots ps ms)[k]? = some (.row e true (ms.getD k []))
  | [], ms, k, e, h => by simp at h
  | e' :: ps, ms, 0, e, h => by
    simp at h; subst h
    simp only [msRoots, List.getElem?_cons_zero]
    cases ms <;> rfl
  | e' :: ps, ms, k + 1, e, h => by
    simp only [msRoots, List.getElem?_cons_succ]
    rw [msRoots_get (ps := ps) (by simpa using h)]
    cases ms <;> simp
theorem msRoots_len : ∀ (ps : List TypeId) (ms : List (List (List U))), (msRoots ps ms).length = ps.length
  | [], ms => rfl
  | e :: ps, ms => by simp [msRoots, msRoots_len ps]
theorem rootTypes_len : ∀ (rt : List Root), (rootTypes rt).length = rt.length
  | [] => rfl
  | .row .. :: rt => by simp [rootTypes, rootTypes_len rt]
  | .box .. :: rt => by simp [rootTypes, rootTypes_len rt]
  | .gone :: rt => by simp [rootTypes, rootTypes_len rt]
theorem rootTypes_get : ∀ {rt : List Root} {k : Nat} {e : TypeId} {d : Bool} {xs : List (List U)}, rt[k]? = some (.row e d xs) → (rootTypes rt)[k]? = some e
  | [], k, e, d, xs, h => by simp at h
  | .row e' d' xs' :: rt, 0, e, d, xs, h => by simp at h; simp [rootTypes, h]
  | .box .. :: rt, 0, e, d, xs, h => by simp at h
  | .gone :: rt, 0, e, d, xs, h => by simp at h
  | .row .. :: rt, k + 1, e, d, xs, h => by simp only [rootTypes, List.getElem?_cons_succ]; exact rootTypes_get (by simpa using h)
  | .box .. :: rt, k + 1, e, d, xs, h => by simp only [rootTypes, List.getElem?_cons_succ]; exact rootTypes_get (by simpa using h)
  | .gone :: rt, k + 1, e, d, xs, h => by simp only [rootTypes, List.getElem?_cons_succ]; exact rootTypes_get (by simpa using h)
theorem SV.avd_none (x : SV) (rt0 : List Root) : x.avd (fun _ => False) (fun _ => False) rt0 := SV.avd_false x
/-- The caller's ghost, after the call: np' links; L roots of the caller. -/
def ghOut (g g' : Gh) (own : Nat → Option Nat) (ls : List (Option (Nat × Path))) (L : Nat) : Gh :=
  ⟨fun b => match g'.own b with
    | some i => if i < ls.length then (match ls[i]? with | some (some (r, _)) => some r | _ => none) else some (L + (i - ls.length))
    | none => match own b with | some _ => none | none => g.own b,
   fun i => if i < L then g.v i else g'.v (ls.length + (i - L)), g.b⟩
theorem call_out (h : Rel X own0 w0 st a w g) {ls : List Link} {lv : List Value} (hl : LinksOk X st w g ls lv) (hn : (linkRoots (ls.map (·.2))).Nodup) {own : Nat → Option Nat} (ho : ∀ k, Behind X st w g ls lv k (fun b => own b = some k)) {S' : Nat → Prop}
    {ms : List (List (List U))} {res : List Root} (hres : ∀ x ∈ res, ∃ e d xs, x = .row e d xs) (hS : (∀ x ∈ res, ∃ e xs, x = .row e true xs) ∨ ∀ b, S' b → okb X w g b)
    (hm' : Mem ⟨X.T, S', w.heap.size, ls.length, fun i => lv.getD i undef, own⟩ ⟨[], msRoots (rootTypes (ls.map (·.1))) ms ++ res, ls.length⟩ w' g') (hf : Fr own w w' g') :
    Rel X own0 w0 ⟨(putBack st (ls.map (·.2)) ms 0).sl, (putBack st (ls.map (·.2)) ms 0).rt ++ res, st.np⟩ a w' (ghOut g g' own (ls.map (·.2)) st.rt.length) ∧
    (∀ b, okb X w g b → okb X w' (ghOut g g' own (ls.map (·.2)) st.rt.length) b ∧ w'.heap[b]? = w.heap[b]?) ∧
    (∀ b, w.heap.size ≤ b → b < w'.heap.size → g'.own b = none → okb X w' (ghOut g g' own (ls.map (·.2)) st.rt.length) b) := by
  have hown : ∀ {b i}, own b = some i → ∃ x r p, ls[i]? = some (x, some (r, p)) ∧ g.own b = some r := fun h => (ho _).1 _ h
  have hlink : ∀ {i : Nat} {x : Root} {r p}, ls[i]? = some (x, some (r, p)) → (ls.map (·.2))[i]? = some (some (r, p)) := fun h => by rw [List.getElem?_map, h]; rfl
  have hlr : ∀ {i : Nat} {x : Root} {r p}, ls[i]? = some (x, some (r, p)) → r ∈ linkRoots (ls.map (·.2)) := fun h => List.mem_filterMap.2 ⟨_, List.mem_of_getElem? (hlink h), rfl⟩
  have hlr2 : ∀ r, r ∈ linkRoots (ls.map (·.2)) → ∃ (i : Nat) (x : Root) (p : Path), ls[i]? = some (x, some (r, p)) := by
    intro r hr
    obtain ⟨o, h1, h2⟩ := List.mem_filterMap.1 hr
    obtain ⟨l, h3, rfl⟩ := List.mem_map.1 h1
    obtain ⟨i, hi⟩ := List.getElem?_of_mem h3
    obtain ⟨x, o⟩ := l
    cases o with
    | none => cases h2
    | some rp => obtain ⟨r', p⟩ := rp; simp at h2; subst h2; exact ⟨i, x, p, hi⟩
  have hrow : ∀ {i : Nat} {x : Root} {r p}, ls[i]? = some (x, some (r, p)) → ∃ e d e0 xs v, x = .row e true d ∧ st.rt[r]? = some (.row e0 true xs) ∧ lv[i]? = some v ∧ d = getP xs p := by
    intro i x r p hi
    obtain ⟨v, h1, e, d, h2, h3⟩ := hl.get hi
    rcases h3 with ⟨h4, _⟩ | ⟨r', p', e0, xs, h4, h5, h6, h7⟩
    · cases h4
    · cases h4
      exact ⟨e, d, e0, xs, v, h2, h5, h1, h6⟩
  have hIsRow : ∀ r ∈ linkRoots (ls.map (·.2)), IsRow st.rt r := fun r hr => by
    obtain ⟨i, x, p, hi⟩ := hlr2 r hr
    obtain ⟨e, d, e0, xs, v, _, h5, _⟩ := hrow hi
    exact ⟨e0, true, xs, h5⟩
  obtain ⟨b1, b2, b3, b4, b5⟩ := putBack_spec (ls := ls.map (·.2)) (ms := ms) (i := 0) (st := st) hn hIsRow
  have hnone : ∀ b, b < w.heap.size → own b = none → g'.own b = none ∧ w'.heap[b]? = w.heap[b]? := fun b hb ho' => hf.block b hb ho'
  have hLl : (ls.map (·.2)).length = ls.length := List.length_map ..
  have hg0 : ∀ b, b < w.heap.size → own b = none → (ghOut g g' own (ls.map (·.2)) st.rt.length).own b = g.own b := fun b hb ho' => by
    show (match g'.own b with | some i => _ | none => match own b with | some _ => none | none => g.own b) = _
    rw [(hnone b hb ho').1, ho']
  have hownNone : ∀ b, g.own b = none → own b = none := fun b hb => by
    cases hc : own b with
    | none => rfl
    | some i => obtain ⟨x, r, p, _, h2⟩ := hown hc; rw [hb] at h2; cases h2
  have hok : ∀ b, okb X w g b → okb X w' (ghOut g g' own (ls.map (·.2)) st.rt.length) b ∧ w'.heap[b]? = w.heap[b]? := fun b hb =>
    ⟨⟨(hg0 b hb.2.1 (hownNone b hb.1)).trans hb.1, Nat.lt_of_lt_of_le hb.2.1 hf.size, hb.2.2⟩, (hnone b hb.2.1 (hownNone b hb.1)).2⟩
  have hnew : ∀ b, w.heap.size ≤ b → b < w'.heap.size → g'.own b = none → okb X w' (ghOut g g' own (ls.map (·.2)) st.rt.length) b := fun b hb hlt hn' => by
    have hgb : g.own b = none := by
      cases hc : g.own b with
      | none => rfl
      | some s => have := h.mem.lt b (by rw [hc]; simp); omega
    refine ⟨?_, hlt, .inr (Nat.le_trans h.mem.n0 hb)⟩
    show (match g'.own b with | some i => _ | none => match own b with | some _ => none | none => g.own b) = _
    rw [hn', hownNone b hgb]; exact hgb
  have hK : Keep X (fun s => s ∈ linkRoots (ls.map (·.2))) (fun s => s ∈ linkRoots (ls.map (·.2))) w g (st.purgeL (linkRoots (ls.map (·.2)))).rt w' (ghOut g g' own (ls.map (·.2)) st.rt.length) ((putBack st (ls.map (·.2)) ms 0).rt ++ res) := by
    have hpl : ∀ s : Nat, (st.purgeL (linkRoots (ls.map (·.2)))).rt[s]? = (st.rt[s]?).map (Root.purgeL (linkRoots (ls.map (·.2)))) := fun s => List.getElem?_map
    have hlt : ∀ {s : Nat} {x}, (st.purgeL (linkRoots (ls.map (·.2)))).rt[s]? = some x → s < (putBack st (ls.map (·.2)) ms 0).rt.length := fun hx => by
      have := lt_of_some hx
      rw [b3]
      exact (show (st.rt.map _).length = _ from List.length_map ..) ▸ this
    refine ⟨hok, fun b r hr hb => ?_, fun r hr _ => ?_, fun r e d xs hr hx => ?_, fun r t cs hx => ⟨rfl, ?_⟩, fun r hr => ⟨?_, fun e d xs hx => ?_⟩⟩
    · have hb' := h.mem.lt b (by rw [hb]; simp)
      have ho' : own b = none := by
        cases hc : own b with
        | none => rfl
        | some i =>
          obtain ⟨x, r', p, h1, h2⟩ := hown hc
          obtain rfl : r = r' := Option.some.inj (hb.symm.trans h2)
          exact absurd (hlr h1) hr
      exact ⟨(hg0 b hb' ho').trans hb, (hnone b hb' ho').2⟩
    · have : r < st.rt.length := (show (st.rt.map _).length = _ from List.length_map ..) ▸ hr
      exact if_pos this
    · rw [List.getElem?_append_left (hlt hx), b4 r hr, ← hpl]; exact hx
    · have hr : r ∉ linkRoots (ls.map (·.2)) := by
        intro hr
        obtain ⟨e, d, xs, h1⟩ := hIsRow r hr
        rw [hpl, h1] at hx
        simp [Root.purgeL_row] at hx
      exact ⟨cs, by rw [List.getElem?_append_left (hlt hx), b4 r hr, ← hpl]; exact hx⟩
    · obtain ⟨e, d, xs, h1⟩ := hIsRow r hr
      exact if_pos (lt_of_some h1)
    · obtain ⟨i, y, p, hi⟩ := hlr2 r hr
      rw [hpl] at hx
      obtain ⟨e1, d1, xs1, h1⟩ := hIsRow r hr
      rw [h1] at hx
      simp only [Option.map_some, Root.purgeL_row, Option.some.injEq, Root.row.injEq] at hx
      have h8 := b5 i r p _ _ _ (hlink hi) h1
      rw [hx.1] at h8
      exact ⟨_, _, (List.getElem?_append_left (by rw [b3]; exact lt_of_some h1)).trans h8⟩
  have hP := Rel.purgeL (linkRoots (ls.map (·.2))) h
  have hov : ∀ {b i : Nat}, g'.own b = some i → (ghOut g g' own (ls.map (·.2)) st.rt.length).own b = if i < ls.length then (match (ls.map (·.2))[i]? with | some (some (r, _)) => some r | _ => none) else some (st.rt.length + (i - ls.length)) := fun {b i} hb => by
    show (match g'.own b with | some i => if i < (List.map (fun x : Link => x.2) ls).length then _ else some (st.rt.length + (i - (List.map (fun x : Link => x.2) ls).length)) | none => _) = _
    rw [hb, hLl]
  have hpsl : (rootTypes (ls.map (·.1))).length = ls.length := by rw [rootTypes_len, List.length_map]
  refine ⟨⟨⟨fun i x hx => ?_, fun b hb => ?_, fun b s hb => ?_, Nat.le_trans h.mem.n0 hf.size, h.mem.np, ?_, fun b s hb => ?_, fun s hs => ?_⟩, ?_, fun i sv hi => ?_, h.df, ⟨hf.os.trans h.fr.os, hf.tape.trans h.fr.tape, hf.output.trans h.fr.output, Nat.le_trans h.fr.size hf.size, fun b hb ho' => ?_⟩⟩, hok, hnew⟩
  · -- the roots
    have hx : ((putBack st (ls.map (·.2)) ms 0).rt ++ res)[i]? = some x := hx
    by_cases hi : i < st.rt.length
    · rw [List.getElem?_append_left (by rw [b3]; exact hi)] at hx
      by_cases hr : i ∈ linkRoots (ls.map (·.2))
      · obtain ⟨k, y, p, hk⟩ := hlr2 i hr
        obtain ⟨e, d, e0, xs, v, rfl, h5, h6, h7⟩ := hrow hk
        have h8 := b5 k i p _ _ _ (hlink hk) h5
        rw [h8] at hx
        obtain rfl := Option.some.inj hx
        rw [Nat.zero_add]
        have hkl : k < ls.length := lt_of_some hk
        have h9 : (msRoots (rootTypes (ls.map (·.1))) ms ++ res)[k]? = some (.row e true (ms.getD k [])) := by
          rw [List.getElem?_append_left (by rw [msRoots_len, hpsl]; exact hkl)]
          exact msRoots_get (rootTypes_get (by rw [List.getElem?_map, hk]; rfl))
        have h10 : RepO X.T.ct w' (fun b => g'.own b = some k) (.slc e) (.lst (ms.getD k [])) (g'.v k) := hm'.rt k _ h9
        rw [show g'.v k = v from (hm'.pv k hkl).trans (getD_of_some h6)] at h10
        have h11 := ((ho k).2 e d i p v hk h6).2 e0 xs h5 w' (fun b => g'.own b = some k) (ms.getD k []) h10 (fun b hb hno => ?_) (fun b hb => ?_)
        · show RepO X.T.ct w' (fun b => (ghOut g g' own (ls.map (·.2)) st.rt.length).own b = some i) (.slc e0) _ (if i < st.rt.length then g.v i else _)
          rw [if_pos hi]
          refine h11.mono fun b hb => ?_
          rcases hb with ⟨hb1, hb2⟩ | hb
          · have hb' := h.mem.lt b (by rw [hb1]; simp)
            have ho' : own b = none := by
              cases hc : own b with
              | none => rfl
              | some j =>
                obtain ⟨y, r', p', q1, q2⟩ := hown hc
                obtain rfl : i = r' := Option.some.inj (hb1.symm.trans q2)
                obtain rfl := linkRoots_inj hn (hlink hk) (hlink q1)
                exact absurd hc hb2
            exact (hg0 b hb' ho').trans hb1
          · rw [hov hb, if_pos hkl, hlink hk]
        · have hb' := h.mem.lt b (by rw [hb]; simp)
          have ho' : own b = none := by
            cases hc : own b with
            | none => rfl
            | some j =>
              obtain ⟨y, r', p', q1, q2⟩ := hown hc
              obtain rfl : i = r' := Option.some.inj (hb.symm.trans q2)
              obtain rfl := linkRoots_inj hn (hlink hk) (hlink q1)
              exact absurd hc hno
          exact (hnone b hb' ho').2
        · by_cases hlt : b < w.heap.size
          · cases hc : own b with
            | none => rw [(hnone b hlt hc).1] at hb; cases hb
            | some j =>
              by_cases hjk : j = k
              · subst hjk; exact .inl hc
              · right
                intro hgb
                obtain ⟨y, r', p', q1, q2⟩ := hown hc
                obtain rfl : i = r' := Option.some.inj (hgb.symm.trans q2)
                exact hjk (linkRoots_inj hn (hlink q1) (hlink hk))
          · right
            intro hgb
            exact hlt (h.mem.lt b (by rw [hgb]; simp))
      · rw [b4 i hr] at hx
        obtain ⟨y, hy, rfl⟩ := Option.map_eq_some_iff.1 hx
        have hy' : (st.purgeL (linkRoots (ls.map (·.2)))).rt[i]? = some (Root.purgeL (linkRoots (ls.map (·.2))) y) := by
          show (st.rt.map _)[i]? = _
          rw [List.getElem?_map, hy]; rfl
        refine RootR.keep hP.mem hK hy' hr ?_
        have := Root.avd_purgeL (rt0 := (st.purgeL (linkRoots (ls.map (·.2)))).rt) (linkRoots (ls.map (·.2))) (x := y) (Rr := fun _ => False) (Root.avd_false y)
        have e1 : (fun s => s ∈ linkRoots (ls.map (·.2)) ∨ False) = (fun s => s ∈ linkRoots (ls.map (·.2))) := funext fun s => by simp
        rw [e1] at this
        exact this
    · rw [List.getElem?_append_right (by rw [b3]; omega), b3] at hx
      obtain ⟨j, rfl⟩ : ∃ j, i = st.rt.length + j := ⟨i - st.rt.length, by omega⟩
      rw [show st.rt.length + j - st.rt.length = j from by omega] at hx
      obtain ⟨e, d, xs, rfl⟩ := hres x (List.mem_of_getElem? hx)
      have h9 : (msRoots (rootTypes (ls.map (·.1))) ms ++ res)[ls.length + j]? = some (.row e d xs) := by
        rw [List.getElem?_append_right (by rw [msRoots_len, hpsl]; omega), msRoots_len, hpsl, show ls.length + j - ls.length = j from by omega]
        exact hx
      have h10 := hm'.rt _ _ h9
      have hv : (ghOut g g' own (ls.map (·.2)) st.rt.length).v (st.rt.length + j) = g'.v (ls.length + j) := by
        show (if st.rt.length + j < st.rt.length then _ else g'.v ((ls.map (·.2)).length + (st.rt.length + j - st.rt.length))) = _
        rw [if_neg (by omega), hLl]; congr 1; omega
      have hF : ∀ b, g'.own b = some (ls.length + j) → (ghOut g g' own (ls.map (·.2)) st.rt.length).own b = some (st.rt.length + j) := fun b hb => by
        rw [hov hb, if_neg (by omega)]; congr 1; omega
      cases d with
      | true =>
        show RepO _ _ _ _ _ ((ghOut g g' own (ls.map (·.2)) st.rt.length).v _)
        rw [hv]
        exact RepO.mono (h := h10) hF
      | false =>
        show RepS _ _ _ _ _ _ ((ghOut g g' own (ls.map (·.2)) st.rt.length).v _)
        rw [hv]
        refine RepS.imp h10 (fun b hb => ⟨hF b hb, rfl⟩) (fun b hb => ⟨?_, rfl⟩)
        rcases hS with hS | hS
        · obtain ⟨e', xs', hh⟩ := hS _ (List.mem_of_getElem? hx); cases hh
        · by_cases hlt : b < w.heap.size
          · rcases hb.2.2 with hs | hs
            · exact (hok b (hS b hs)).1
            · exact absurd hlt (by show ¬ _; exact Nat.not_lt.2 hs)
          · exact hnew b (by omega) hb.2.1 hb.1
  · cases hc : g'.own b with
    | some i => exact hm'.lt b (by rw [hc]; simp)
    | none =>
      have hb : (match g'.own b with | some i => _ | none => match own b with | some _ => none | none => g.own b) ≠ none := hb
      rw [hc] at hb
      cases hc2 : own b with
      | some j => rw [hc2] at hb; exact absurd rfl hb
      | none => rw [hc2] at hb; exact Nat.lt_of_lt_of_le (h.mem.lt b hb) hf.size
  · show s < ((putBack st (ls.map (·.2)) ms 0).rt ++ res).length
    rw [List.length_append, b3]
    cases hc : g'.own b with
    | some i =>
      rw [hov hc] at hb
      split at hb
      · split at hb
        · rename_i r p hr
          cases hb
          rw [List.getElem?_map] at hr
          obtain ⟨l, h1, h2⟩ := Option.map_eq_some_iff.1 hr
          obtain ⟨y, o⟩ := l
          have h2 : o = some (s, p) := h2
          subst h2
          obtain ⟨e, d, e0, xs, v, _, h5, _⟩ := hrow h1
          have := lt_of_some h5
          omega
        · cases hb
      · cases hb
        have := hm'.ob b i hc
        have : i < (msRoots (rootTypes (ls.map (·.1))) ms ++ res).length := this
        rw [List.length_append, msRoots_len, hpsl] at this
        omega
    | none =>
      have hb : (match g'.own b with | some i => _ | none => match own b with | some _ => none | none => g.own b) = some s := hb
      rw [hc] at hb
      cases hc2 : own b with
      | some j => rw [hc2] at hb; cases hb
      | none => rw [hc2] at hb; have := h.mem.ob b s hb; omega
  · show X.np ≤ ((putBack st (ls.map (·.2)) ms 0).rt ++ res).length
    rw [List.length_append, b3]; have := h.mem.nl; omega
  · cases hc : g'.own b with
    | some i =>
      by_cases hlt : w.heap.size ≤ b
      · exact .inl (Nat.le_trans h.mem.n0 hlt)
      · rw [hov hc] at hb
        obtain ⟨hi, hp⟩ : i < ls.length ∧ own b = some i := by
          rcases hm'.pm b i hc with hh | hh
          · exact absurd hh hlt
          · exact hh
        rw [if_pos hi] at hb
        obtain ⟨y, r', p', q1, q2⟩ := hown hp
        rw [hlink q1] at hb
        obtain rfl : r' = s := Option.some.inj hb
        exact h.mem.pm b r' q2
    | none =>
      have hb : (match g'.own b with | some i => _ | none => match own b with | some _ => none | none => g.own b) = some s := hb
      rw [hc] at hb
      cases hc2 : own b with
      | some j => rw [hc2] at hb; cases hb
      | none => rw [hc2] at hb; exact h.mem.pm b s hb
  · show (if s < st.rt.length then g.v s else _) = _
    have := h.mem.nl
    rw [if_pos (by omega)]; exact h.mem.pv s hs
  · show (putBack st (ls.map (·.2)) ms 0).sl.length ≤ _
    rw [b1, List.length_map]; exact h.sz
  · have hi : (putBack st (ls.map (·.2)) ms 0).sl[i]? = some sv := hi
    rw [b1] at hi
    have h1 := hP.sl i sv hi
    rw [List.getElem?_map] at hi
    obtain ⟨y, hy, rfl⟩ := Option.map_eq_some_iff.1 hi
    refine SVR.keep hP.mem hK ?_ h1
    have := SV.avd_purgeL (rt0 := (st.purgeL (linkRoots (ls.map (·.2)))).rt) (linkRoots (ls.map (·.2))) (x := y) (Rr := fun _ => False) (SV.avd_false y)
    have e1 : (fun s => s ∈ linkRoots (ls.map (·.2)) ∨ False) = (fun s => s ∈ linkRoots (ls.map (·.2))) := funext fun s => by simp
    rw [e1] at this
    exact this
  · obtain ⟨e1, e2⟩ := h.fr.block b hb ho'
    have hlt : b < w.heap.size := Nat.lt_of_lt_of_le hb h.fr.size
    have h3 := hownNone b e1
    exact ⟨(hg0 b hlt h3).trans e1, (hnone b hlt h3).2.trans e2⟩
end
end Go.Proofs.Ytlblehdenhpijaa.Eng
