/- The evaluator, part 10: operations that make memory. Of no program. -/
import Derived.Test.YtlblehdenhpijaaE9
namespace Go.Proofs.Ytlblehdenhpijaa.Eng
open Go.RowKit
set_option linter.unusedVariables false

/-! ### Values put together -/
def spliceV (cs : List Value) (o : Nat) : List Value → List Value
  | [] => cs
  | u :: us => spliceV (cs.set o u) (o + 1) us
theorem spliceV_length : ∀ (us cs : List Value) (o : Nat), (spliceV cs o us).length = cs.length
  | [], cs, o => rfl
  | u :: us, cs, o => by unfold spliceV; rw [spliceV_length us]; exact List.length_set
theorem spliceC_length : ∀ (us cs : List Cl) (o : Nat), (spliceC cs o us).length = cs.length
  | [], cs, o => rfl
  | u :: us, cs, o => by unfold spliceC; rw [spliceC_length us]; exact List.length_set
theorem spliceV_get : ∀ (us cs : List Value) (o i : Nat), o + us.length ≤ cs.length → (spliceV cs o us)[i]? = if o ≤ i ∧ i < o + us.length then us[i - o]? else cs[i]?
  | [], cs, o, i, h => by unfold spliceV; rw [if_neg (by simp only [List.length_nil]; omega)]
  | u :: us, cs, o, i, h => by
    unfold spliceV
    rw [spliceV_get us (cs.set o u) (o + 1) i (by simp at h ⊢; omega)]
    simp only [List.length_cons] at h ⊢
    by_cases h1 : i = o
    · subst h1
      rw [if_neg (by omega), if_pos (by omega), List.getElem?_set_self (by omega), Nat.sub_self]
      rfl
    · by_cases h2 : o + 1 ≤ i ∧ i < o + 1 + us.length
      · rw [if_pos h2, if_pos (by omega)]
        obtain ⟨k, rfl⟩ : ∃ k, i = o + 1 + k := ⟨i - (o + 1), by omega⟩
        rw [show o + 1 + k - (o + 1) = k from by omega, show o + 1 + k - o = k + 1 from by omega]; rfl
      · rw [if_neg h2, if_neg (by omega), List.getElem?_set_ne (by omega)]
theorem ClsR.splice {X : Ctx} {w : World} {rt : List Root} {g : Gh} : ∀ {xs : List Cl} {vs : List Value} {cs : List Cl} {us : List Value} (o : Nat), ClsR X w rt g cs us → ClsR X w rt g xs vs → ClsR X w rt g (spliceC cs o xs) (spliceV us o vs)
  | [], [], cs, us, o, h, _ => h
  | x :: xs, v :: vs, cs, us, o, h, k => ClsR.splice (o + 1) (h.set k.1) k.2
  | [], _ :: _, _, _, _, _, k => k.elim
  | _ :: _, [], _, _, _, _, k => k.elim
theorem foldl_splice (vs : List Value) : ∀ (k o : Nat) (cs : Array Value), ((vs.zipIdx k).foldl (fun (cs : Array Value) (x : Value × Nat) => cs.setIfInBounds (o + x.2) x.1) cs).toList = spliceV cs.toList (o + k) vs := by
  induction vs with
  | nil => intro k o cs; rfl
  | cons v vs ih =>
    intro k o cs
    rw [List.zipIdx_cons, List.foldl_cons, ih (k + 1) o]
    simp only [Array.toList_setIfInBounds]
    rfl
theorem foldl_spliceA (vs : Array Value) (o : Nat) (cs : Array Value) : (vs.zipIdx.foldl (fun (cs : Array Value) (x : Value × Nat) => cs.setIfInBounds (o + x.2) x.1) cs).toList = spliceV cs.toList o vs.toList := by
  rw [← Array.foldl_toList, Array.toList_zipIdx]
  have := foldl_splice vs.toList 0 o cs
  simpa using this

section
variable {P : Program} {X : Ctx} {own0 : Nat → Option Nat} {w0 : World} {st : St} {a : Act} {w : World} {g : Gh}
theorem one_cells {v : Value} (h : v.oneCell' = true) : v.cells = #[v] := by cases v <;> first | rfl | cases h
theorem clsOf_sound (h : Rel X own0 w0 st a w g) {x : SV} {v : Value} {cs : List Cl} (hx : SVR X w st.rt g x v) (hq : clsOf x = some cs) : ClsR X w st.rt g cs v.cells.toList := by
  unfold clsOf at hq
  split at hq <;> try (cases hq; done)
  · rename_i c hne
    obtain rfl := Option.some.inj hq
    have h1 := hx.cl hne
    rw [one_cells (h1.one h.mem)]
    exact ⟨h1, trivial⟩
  · obtain rfl := Option.some.inj hq
    obtain ⟨vs, rfl, h1⟩ := hx
    exact h1
/-- A literal's cells. -/
theorem fill_sound (h : Rel X own0 w0 st a w g) (place : Nat → Option (Nat × Nat)) : ∀ (ps : List (Nat × Operand)) {cs cs' : List Cl} {vs : Array Value}, ClsR X w st.rt g cs vs.toList → buildCells place (ev st) cs ps = some cs' →
    ∃ vs', Instr.fill place vs (ps.map fun x => (x.1, a.eval x.2)) = some vs' ∧ ClsR X w st.rt g cs' vs'.toList ∧ cs'.length = cs.length
  | [], cs, cs', vs, hc, hq => by obtain rfl := Option.some.inj hq; exact ⟨vs, rfl, hc, rfl⟩
  | (i, x) :: ps, cs, cs', vs, hc, hq => by
    unfold buildCells at hq
    split at hq
    · rename_i o n b hp hcl
      split at hq
      · rename_i hh
        have h1 := clsOf_sound h (ev_sound h x) hcl
        have hl1 := h1.length
        have hl2 := hc.length
        simp only [Array.length_toList] at hl1 hl2
        obtain ⟨vs', h2, h3, h4⟩ := fill_sound h place ps (cs := spliceC cs o b) (vs := (a.eval x).cells.zipIdx.foldl (fun (cs : Array Value) (y : Value × Nat) => cs.setIfInBounds (o + y.2) y.1) vs)
          (by rw [foldl_spliceA]; exact hc.splice o h1) hq
        refine ⟨vs', ?_, h3, h4.trans (spliceC_length _ _ _)⟩
        simp only [List.map_cons, Instr.fill, hp]
        rw [if_neg]
        · exact h2
        · simp only [Bool.or_eq_true, decide_eq_true_eq, not_or, ne_eq, Decidable.not_not]
          omega
      · cases hq
    · cases hq
theorem zero_cells (X : Ctx) {w : World} {rt : List Root} {g : Gh} : ∀ (cts : List CT), ClsR X w rt g (cts.map zeroCl) (cts.map zeroV)
  | [] => trivial
  | c :: cts => ⟨by cases c <;> rfl, zero_cells X cts⟩
theorem TRow.zero_cells' (hT : TabOk P X.T) (t : TypeId) : (X.T.row t).zero.cells = ((X.T.ct t).map zeroV).toArray := by
  unfold TRow.zero
  split
  · rename_i c hd
    rw [hT.one t c hd]
    cases c <;> rfl
  · rfl
theorem run_zeroValue (hT : TabOk P X.T) {t : TypeId} (ht : (X.T.row t).d.known = true) : (zeroValue t).run P w = .ok (X.T.row t).zero w := by
  obtain ⟨i, desc, h1, h2, h3, h4, h5, h6⟩ := hT.ok t ht
  simp [zeroValue, typeInfo, h1, h5]
theorem places_list (hT : TabOk P X.T) : ∀ (fl : List Field), (∀ f ∈ fl, (X.T.row f.type).d.known = true) → fl.mapM (fun f => (P.info? f.type).map fun i => (f.offset, i.size)) = some (fl.map fun f => (f.offset, X.T.size f.type))
  | [], _ => rfl
  | f :: fl, hk => by
    obtain ⟨i, desc, h1, h2, h3, _⟩ := hT.ok f.type (hk f (by simp))
    rw [List.mapM_cons, h1, places_list hT fl fun x hx => hk x (by simp [hx])]
    simp [h3]
theorem buildK_sound (hT : TabOk P X.T) (h : Rel X own0 w0 st a w g) {t : TypeId} {parts : Array (Nat × Operand)} {sv : SV} (hq : buildK X.T (ev st) t parts.toList some = some sv) :
    ∃ v, (Instr.build t (parts.map fun (x : Nat × Operand) => (x.1, a.eval x.2))).run P w = .ok v w ∧ SVR X w st.rt g sv v := by
  have hz : ClsR X w st.rt g ((X.T.ct t).map zeroCl) (X.T.row t).zero.cells.toList := by rw [TRow.zero_cells' hT]; exact zero_cells X _
  unfold buildK at hq
  split at hq
  · rename_i fs hd
    have ht : (X.T.row t).d.known = true := by rw [hd]; rfl
    obtain ⟨i, desc, h1, h2, h3, h4, h5, h6⟩ := hT.ok t ht
    rw [hd] at h6
    cases desc <;> try exact h6.elim
    rename_i fields
    simp only [descOk] at h6
    split at hq
    · rename_i hall
      split at hq
      · rename_i cs hb
        obtain rfl := Option.some.inj hq
        obtain ⟨vs', h7, h8, h9⟩ := fill_sound h _ _ hz hb
        refine ⟨.agg vs', run_build (P := P) w t _ _ ?_, vs', rfl, h8⟩
        have hpl := places_list hT fields.toList (fun f hf => by
          have := List.all_eq_true.1 hall (f.type, f.offset) (by rw [← h6]; exact List.mem_map.2 ⟨f, hf, rfl⟩)
          exact this)
        have e1 : (fun (i : Nat) => (fs[i]?).map fun (f : TypeId × Nat) => (f.2, X.T.size f.1)) = fun (i : Nat) => ((fields.toList.map fun f => (f.offset, X.T.size f.type)).toArray[i]? : Option (Nat × Nat)) := by
          funext i
          rw [← h6]
          simp
          rfl
        rw [e1] at h7
        unfold Program.built
        simp only [h1, h2, h5, hpl, Array.toList_map]
        exact h7
      · cases hq
    · cases hq
  · rename_i n e hd
    have ht : (X.T.row t).d.known = true := by rw [hd]; rfl
    obtain ⟨i, desc, h1, h2, h3, h4, h5, h6⟩ := hT.ok t ht
    have h2' := und_arr hT hd
    split at hq
    · rename_i he
      obtain ⟨ie, _, g1, _, g3, _⟩ := hT.ok e he
      split at hq
      · rename_i cs hb
        obtain rfl := Option.some.inj hq
        obtain ⟨vs', h7, h8, h9⟩ := fill_sound h _ _ hz hb
        refine ⟨.agg vs', run_build (P := P) w t _ _ ?_, vs', rfl, h8⟩
        unfold Program.built
        simp only [h1, h2', h5, g1, g3, Array.toList_map]
        exact h7
      · cases hq
    · cases hq
  · cases hq

/-! ### New memory -/
theorem Fr.new (hf : Fr own0 w0 w g) {w' : World} {g' : Gh} (h1 : w'.os = w.os) (h2 : w'.tape = w.tape) (h3 : w'.output = w.output) (h4 : w.heap.size ≤ w'.heap.size) (h5 : ∀ b, b < w.heap.size → w'.heap[b]? = w.heap[b]?) (h6 : ∀ b, b < w.heap.size → g.own b = none → g'.own b = none) : Fr own0 w0 w' g' :=
  ⟨h1.trans hf.os, h2.trans hf.tape, h3.trans hf.output, Nat.le_trans hf.size h4, fun b hb ho => by
    have hb' := Nat.lt_of_lt_of_le hb hf.size
    obtain ⟨h7, h8⟩ := hf.block b hb ho
    exact ⟨h6 b hb' h7, (h5 b hb').trans h8⟩⟩
/-- The ghost, when the block b is the new root n's. -/
def Gh.new (g : Gh) (b n : Nat) (v : Value) : Gh := ⟨fun x => if x = b then some n else g.own x, fun r => if r = n then v else g.v r, fun r => if r = n then b else g.b r⟩
theorem own_none_of_ge (h : Rel X own0 w0 st a w g) {b : Nat} (hb : w.heap.size ≤ b) : g.own b = none := by
  cases hx : g.own b with
  | none => rfl
  | some r => have := h.mem.lt b (by rw [hx]; simp); omega
/-- A new block, a root of its own. -/
theorem Rel.newRoot (h : Rel X own0 w0 st a w g) (x : Root) (v : Value) {w' : World} {d : Nat} (h1 : w'.os = w.os) (h2 : w'.tape = w.tape) (h3 : w'.output = w.output) (h4 : w'.heap.size = w.heap.size + 1) (h5 : ∀ b, b < w.heap.size → w'.heap[b]? = w.heap[b]?)
    (hx : RootR X w' (st.add x).rt (g.new w.heap.size st.rt.length v) st.rt.length x) : Rel X own0 w0 (st.add x) a w' (g.new w.heap.size st.rt.length v) := by
  have ho := own_none_of_ge h (Nat.le_refl w.heap.size)
  have own_ne : ∀ b, b ≠ w.heap.size → (g.new w.heap.size st.rt.length v).own b = g.own b := fun b hb => if_neg hb
  refine h.add x (fun b hb => ?_) (fun b r hb => ?_) (fun r hr => ?_) hx (fun b hb => ?_) (fun b s hb => ?_) (by omega) (fun b s hb => ?_) (h.fr.new h1 h2 h3 (by omega) h5 fun b hb hn => ?_)
  · obtain ⟨e1, e2, e3⟩ := hb
    exact ⟨⟨by rw [own_ne b (by omega)]; exact e1, by omega, e3⟩, h5 b e2⟩
  · have := h.mem.lt b (by rw [hb]; simp)
    exact ⟨by rw [own_ne b (by omega)]; exact hb, h5 b this⟩
  · have hne : ¬ r = st.rt.length := by omega
    exact ⟨if_neg hne, if_neg hne⟩
  · by_cases hbe : b = w.heap.size
    · omega
    · rw [own_ne b hbe] at hb; have := h.mem.lt b hb; omega
  · by_cases hbe : b = w.heap.size
    · have : (g.new w.heap.size st.rt.length v).own b = some st.rt.length := if_pos hbe
      rw [this] at hb; cases hb; omega
    · rw [own_ne b hbe] at hb; have := h.mem.ob b s hb; omega
  · by_cases hbe : b = w.heap.size
    · have := h.mem.n0; left; omega
    · rw [own_ne b hbe] at hb; exact h.mem.pm b s hb
  · rw [own_ne b (by omega)]; exact hn
/-- A new variable. -/
theorem Rel.newBox (h : Rel X own0 w0 st a w g) (t : TypeId) {cs : List Cl} {vs : Array Value} (hc : ClsR X w st.rt g cs vs.toList) :
    ∃ g', Rel X own0 w0 (st.add (.box t cs)) a (w.alloc (.cells vs t)) g' ∧ SVR X (w.alloc (.cells vs t)) (st.add (.box t cs)).rt g' (.bx st.rt.length 0) (.pointer (some ⟨w.heap.size, 0, none⟩)) := by
  have hold : ∀ b, b < w.heap.size → (w.alloc (.cells vs t)).heap[b]? = w.heap[b]? := fun b hb => heap_alloc_old w _ b hb
  have hnew := heap_alloc_new w (.cells vs t)
  have ho := own_none_of_ge h (Nat.le_refl w.heap.size)
  have hadd : (st.add (.box t cs)).rt[st.rt.length]? = some (.box t cs) := by show (st.rt ++ [_])[st.rt.length]? = _; simp
  have hK : Keep X (fun _ => False) (fun _ => False) w g st.rt (w.alloc (.cells vs t)) (g.new w.heap.size st.rt.length undef) (st.add (.box t cs)).rt := by
    refine Keep.add st _ (fun b hb => ?_) (fun b r hb => ?_) (fun r hr => ?_)
    · obtain ⟨e1, e2, e3⟩ := hb
      exact ⟨⟨by show (if b = w.heap.size then _ else g.own b) = none; rw [if_neg (by omega)]; exact e1, by show b < (w.heap.push _).size; rw [Array.size_push]; omega, e3⟩, hold b e2⟩
    · have := h.mem.lt b (by rw [hb]; simp)
      exact ⟨by show (if b = w.heap.size then _ else g.own b) = _; rw [if_neg (by omega)]; exact hb, hold b this⟩
    · have hne : ¬ r = st.rt.length := by omega
      exact ⟨if_neg hne, if_neg hne⟩
  refine ⟨g.new w.heap.size st.rt.length undef, h.newRoot (d := 0) _ _ rfl rfl rfl (by show (w.heap.push _).size = _; rw [Array.size_push]) hold ?_, ?_, t, cs, hadd⟩
  · refine ⟨vs, ?_, ?_, ClsR.keep h.mem hK (fun x _ => Cl.avd_false x) hc⟩
    · show (w.alloc _).heap[if st.rt.length = st.rt.length then w.heap.size else _]? = _
      rw [if_pos rfl]; exact hnew
    · show (if (if st.rt.length = st.rt.length then w.heap.size else _) = w.heap.size then some st.rt.length else _) = _
      rw [if_pos rfl, if_pos rfl]
  · show _ = Value.pointer (some ⟨if st.rt.length = st.rt.length then w.heap.size else _, 0, none⟩)
    rw [if_pos rfl]
end
end Go.Proofs.Ytlblehdenhpijaa.Eng
