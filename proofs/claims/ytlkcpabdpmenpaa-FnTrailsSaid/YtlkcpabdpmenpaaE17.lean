/- The evaluator: parts 10 to 17. Of no program. -/
import Derived.Test.YtlkcpabdpmenpaaE9
import Derived.Laws.MakeOwn
import Derived.Laws.CopyRow
/- The evaluator, part 10: operations that make memory. Of no program. -/
namespace Go.Proofs.Ytlkcpabdpmenpaa.Eng
open Go.RowKit
set_option linter.unusedVariables false

/-! ### Values put together -/
def spliceV (cs : List Value) (o : Nat) : List Value → List Value
  | [] => cs
  | u :: us => spliceV (cs.set o u) (o + 1) us
theorem spliceV_length : ∀ (us cs : List Value) (o : Nat), (spliceV cs o us).length = cs.length
  | [], cs, o => rfl
  | u :: us, cs, o => by unfold spliceV; rw [spliceV_length us]; exact List.length_set
theorem spliceC_length : ∀ (us cs : List Cl) (o : Nat), (spliceC cs o us).length = cs.length
  | [], cs, o => rfl
  | u :: us, cs, o => by unfold spliceC; rw [spliceC_length us]; exact List.length_set
theorem spliceV_get : ∀ (us cs : List Value) (o i : Nat), o + us.length ≤ cs.length → (spliceV cs o us)[i]? = if o ≤ i ∧ i < o + us.length then us[i - o]? else cs[i]?
  | [], cs, o, i, h => by unfold spliceV; rw [if_neg (by simp only [List.length_nil]; omega)]
  | u :: us, cs, o, i, h => by
    unfold spliceV
    rw [spliceV_get us (cs.set o u) (o + 1) i (by simp at h ⊢; omega)]
    simp only [List.length_cons] at h ⊢
    by_cases h1 : i = o
    · subst h1
      rw [if_neg (by omega), if_pos (by omega), List.getElem?_set_self (by omega), Nat.sub_self]
      rfl
    · by_cases h2 : o + 1 ≤ i ∧ i < o + 1 + us.length
      · rw [if_pos h2, if_pos (by omega)]
        obtain ⟨k, rfl⟩ : ∃ k, i = o + 1 + k := ⟨i - (o + 1), by omega⟩
        rw [show o + 1 + k - (o + 1) = k from by omega, show o + 1 + k - o = k + 1 from by omega]; rfl
      · rw [if_neg h2, if_neg (by omega), List.getElem?_set_ne (by omega)]
theorem ClsR.splice {X : Ctx} {w : World} {rt : List Root} {g : Gh} : ∀ {xs : List Cl} {vs : List Value} {cs : List Cl} {us : List Value} (o : Nat), ClsR X w rt g cs us → ClsR X w rt g xs vs → ClsR X w rt g (spliceC cs o xs) (spliceV us o vs)
  | [], [], cs, us, o, h, _ => h
  | x :: xs, v :: vs, cs, us, o, h, k => ClsR.splice (o + 1) (h.set k.1) k.2
  | [], _ :: _, _, _, _, _, k => k.elim
  | _ :: _, [], _, _, _, _, k => k.elim
theorem foldl_splice (vs : List Value) : ∀ (k o : Nat) (cs : Array Value), ((vs.zipIdx k).foldl (fun (cs : Array Value) (x : Value × Nat) => cs.setIfInBounds (o + x.2) x.1) cs).toList = spliceV cs.toList (o + k) vs := by
  induction vs with
  | nil => intro k o cs; rfl
  | cons v vs ih =>
    intro k o cs
    rw [List.zipIdx_cons, List.foldl_cons, ih (k + 1) o]
    simp only [Array.toList_setIfInBounds]
    rfl
theorem foldl_spliceA (vs : Array Value) (o : Nat) (cs : Array Value) : (vs.zipIdx.foldl (fun (cs : Array Value) (x : Value × Nat) => cs.setIfInBounds (o + x.2) x.1) cs).toList = spliceV cs.toList o vs.toList := by
  rw [← Array.foldl_toList, Array.toList_zipIdx]
  have := foldl_splice vs.toList 0 o cs
  simpa using this

section
variable {P : Program} {X : Ctx} {own0 : Nat → Option Nat} {w0 : World} {st : St} {a : Act} {w : World} {g : Gh}
theorem one_cells {v : Value} (h : v.oneCell' = true) : v.cells = #[v] := by cases v <;> first | rfl | cases h
theorem clsOf_sound (h : Rel X own0 w0 st a w g) {x : SV} {v : Value} {cs : List Cl} (hx : SVR X w st.rt g x v) (hq : clsOf x = some cs) : ClsR X w st.rt g cs v.cells.toList := by
  unfold clsOf at hq
  split at hq <;> try (cases hq; done)
  · rename_i c hne
    obtain rfl := Option.some.inj hq
    have h1 := hx.cl hne
    rw [one_cells (h1.one h.mem)]
    exact ⟨h1, trivial⟩
  · obtain rfl := Option.some.inj hq
    obtain ⟨vs, rfl, h1⟩ := hx
    exact h1
/-- A literal's cells. -/
theorem fill_sound (h : Rel X own0 w0 st a w g) (place : Nat → Option (Nat × Nat)) : ∀ (ps : List (Nat × Operand)) {cs cs' : List Cl} {vs : Array Value}, ClsR X w st.rt g cs vs.toList → buildCells place (ev st) cs ps = some cs' →
    ∃ vs', Instr.fill place vs (ps.map fun x => (x.1, a.eval x.2)) = some vs' ∧ ClsR X w st.rt g cs' vs'.toList ∧ cs'.length = cs.length
  | [], cs, cs', vs, hc, hq => by obtain rfl := Option.some.inj hq; exact ⟨vs, rfl, hc, rfl⟩
  | (i, x) :: ps, cs, cs', vs, hc, hq => by
    unfold buildCells at hq
    split at hq
    · rename_i o n b hp hcl
      split at hq
      · rename_i hh
        have h1 := clsOf_sound h (ev_sound h x) hcl
        have hl1 := h1.length
        have hl2 := hc.length
        simp only [Array.length_toList] at hl1 hl2
        obtain ⟨vs', h2, h3, h4⟩ := fill_sound h place ps (cs := spliceC cs o b) (vs := (a.eval x).cells.zipIdx.foldl (fun (cs : Array Value) (y : Value × Nat) => cs.setIfInBounds (o + y.2) y.1) vs)
          (by rw [foldl_spliceA]; exact hc.splice o h1) hq
        refine ⟨vs', ?_, h3, h4.trans (spliceC_length _ _ _)⟩
        simp only [List.map_cons, Instr.fill, hp]
        rw [if_neg]
        · exact h2
        · simp only [Bool.or_eq_true, decide_eq_true_eq, not_or, ne_eq, Decidable.not_not]
          omega
      · cases hq
    · cases hq
theorem zero_cells (X : Ctx) {w : World} {rt : List Root} {g : Gh} : ∀ (cts : List CT), ClsR X w rt g (cts.map zeroCl) (cts.map zeroV)
  | [] => trivial
  | c :: cts => ⟨by cases c <;> rfl, zero_cells X cts⟩
theorem TRow.zero_cells' (hT : TabOk P X.T) (t : TypeId) : (X.T.row t).zero.cells = ((X.T.ct t).map zeroV).toArray := by
  unfold TRow.zero
  split
  · rename_i c hd
    rw [hT.one t c hd]
    cases c <;> rfl
  · rfl
theorem run_zeroValue (hT : TabOk P X.T) {t : TypeId} (ht : (X.T.row t).d.known = true) : (zeroValue t).run P w = .ok (X.T.row t).zero w := by
  obtain ⟨i, desc, h1, h2, h3, h4, h5, h6⟩ := hT.ok t ht
  simp [zeroValue, typeInfo, h1, h5]
theorem places_list (hT : TabOk P X.T) : ∀ (fl : List Field), (∀ f ∈ fl, (X.T.row f.type).d.known = true) → fl.mapM (fun f => (P.info? f.type).map fun i => (f.offset, i.size)) = some (fl.map fun f => (f.offset, X.T.size f.type))
  | [], _ => rfl
  | f :: fl, hk => by
    obtain ⟨i, desc, h1, h2, h3, _⟩ := hT.ok f.type (hk f (by simp))
    rw [List.mapM_cons, h1, places_list hT fl fun x hx => hk x (by simp [hx])]
    simp [h3]
theorem buildK_sound (hT : TabOk P X.T) (h : Rel X own0 w0 st a w g) {t : TypeId} {parts : Array (Nat × Operand)} {sv : SV} (hq : buildK X.T (ev st) t parts.toList some = some sv) :
    ∃ v, (Instr.build t (parts.map fun (x : Nat × Operand) => (x.1, a.eval x.2))).run P w = .ok v w ∧ SVR X w st.rt g sv v := by
  have hz : ClsR X w st.rt g ((X.T.ct t).map zeroCl) (X.T.row t).zero.cells.toList := by rw [TRow.zero_cells' hT]; exact zero_cells X _
  unfold buildK at hq
  split at hq
  · rename_i fs hd
    have ht : (X.T.row t).d.known = true := by rw [hd]; rfl
    obtain ⟨i, desc, h1, h2, h3, h4, h5, h6⟩ := hT.ok t ht
    rw [hd] at h6
    cases desc <;> try exact h6.elim
    rename_i fields
    simp only [descOk] at h6
    split at hq
    · rename_i hall
      split at hq
      · rename_i cs hb
        obtain rfl := Option.some.inj hq
        obtain ⟨vs', h7, h8, h9⟩ := fill_sound h _ _ hz hb
        refine ⟨.agg vs', run_build (P := P) w t _ _ ?_, vs', rfl, h8⟩
        have hpl := places_list hT fields.toList (fun f hf => by
          have := List.all_eq_true.1 hall (f.type, f.offset) (by rw [← h6]; exact List.mem_map.2 ⟨f, hf, rfl⟩)
          exact this)
        have e1 : (fun (i : Nat) => (fs[i]?).map fun (f : TypeId × Nat) => (f.2, X.T.size f.1)) = fun (i : Nat) => ((fields.toList.map fun f => (f.offset, X.T.size f.type)).toArray[i]? : Option (Nat × Nat)) := by
          funext i
          rw [← h6]
          simp
          rfl
        rw [e1] at h7
        unfold Program.built
        simp only [h1, h2, h5, hpl, Array.toList_map]
        exact h7
      · cases hq
    · cases hq
  · rename_i n e hd
    have ht : (X.T.row t).d.known = true := by rw [hd]; rfl
    obtain ⟨i, desc, h1, h2, h3, h4, h5, h6⟩ := hT.ok t ht
    have h2' := und_arr hT hd
    split at hq
    · rename_i he
      obtain ⟨ie, _, g1, _, g3, _⟩ := hT.ok e he
      split at hq
      · rename_i cs hb
        obtain rfl := Option.some.inj hq
        obtain ⟨vs', h7, h8, h9⟩ := fill_sound h _ _ hz hb
        refine ⟨.agg vs', run_build (P := P) w t _ _ ?_, vs', rfl, h8⟩
        unfold Program.built
        simp only [h1, h2', h5, g1, g3, Array.toList_map]
        exact h7
      · cases hq
    · cases hq
  · cases hq

/-! ### New memory -/
theorem Fr.new (hf : Fr own0 w0 w g) {w' : World} {g' : Gh} (h1 : w'.os = w.os) (h2 : w'.tape = w.tape) (h3 : w'.output = w.output) (h4 : w.heap.size ≤ w'.heap.size) (h5 : ∀ b, b < w.heap.size → w'.heap[b]? = w.heap[b]?) (h6 : ∀ b, b < w.heap.size → g.own b = none → g'.own b = none) : Fr own0 w0 w' g' :=
  ⟨h1.trans hf.os, h2.trans hf.tape, h3.trans hf.output, Nat.le_trans hf.size h4, fun b hb ho => by
    have hb' := Nat.lt_of_lt_of_le hb hf.size
    obtain ⟨h7, h8⟩ := hf.block b hb ho
    exact ⟨h6 b hb' h7, (h5 b hb').trans h8⟩⟩
/-- The ghost, when the block b is the new root n's. -/
def Gh.new (g : Gh) (b n : Nat) (v : Value) : Gh := ⟨fun x => if x = b then some n else g.own x, fun r => if r = n then v else g.v r, fun r => if r = n then b else g.b r⟩
theorem own_none_of_ge (h : Rel X own0 w0 st a w g) {b : Nat} (hb : w.heap.size ≤ b) : g.own b = none := by
  cases hx : g.own b with
  | none => rfl
  | some r => have := h.mem.lt b (by rw [hx]; simp); omega
/-- A new block, a root of its own. -/
theorem Rel.newRoot (h : Rel X own0 w0 st a w g) (x : Root) (v : Value) {w' : World} {d : Nat} (h1 : w'.os = w.os) (h2 : w'.tape = w.tape) (h3 : w'.output = w.output) (h4 : w'.heap.size = w.heap.size + 1) (h5 : ∀ b, b < w.heap.size → w'.heap[b]? = w.heap[b]?)
    (hx : RootR X w' (st.add x).rt (g.new w.heap.size st.rt.length v) st.rt.length x) : Rel X own0 w0 (st.add x) a w' (g.new w.heap.size st.rt.length v) := by
  have ho := own_none_of_ge h (Nat.le_refl w.heap.size)
  have own_ne : ∀ b, b ≠ w.heap.size → (g.new w.heap.size st.rt.length v).own b = g.own b := fun b hb => if_neg hb
  refine h.add x (fun b hb => ?_) (fun b r hb => ?_) (fun r hr => ?_) hx (fun b hb => ?_) (fun b s hb => ?_) (by omega) (fun b s hb => ?_) (h.fr.new h1 h2 h3 (by omega) h5 fun b hb hn => ?_)
  · obtain ⟨e1, e2, e3⟩ := hb
    exact ⟨⟨by rw [own_ne b (by omega)]; exact e1, by omega, e3⟩, h5 b e2⟩
  · have := h.mem.lt b (by rw [hb]; simp)
    exact ⟨by rw [own_ne b (by omega)]; exact hb, h5 b this⟩
  · have hne : ¬ r = st.rt.length := by omega
    exact ⟨if_neg hne, if_neg hne⟩
  · by_cases hbe : b = w.heap.size
    · omega
    · rw [own_ne b hbe] at hb; have := h.mem.lt b hb; omega
  · by_cases hbe : b = w.heap.size
    · have : (g.new w.heap.size st.rt.length v).own b = some st.rt.length := if_pos hbe
      rw [this] at hb; cases hb; omega
    · rw [own_ne b hbe] at hb; have := h.mem.ob b s hb; omega
  · by_cases hbe : b = w.heap.size
    · exact .inl (h.mem.n0 _ (by omega))
    · rw [own_ne b hbe] at hb; exact h.mem.pm b s hb
  · rw [own_ne b (by omega)]; exact hn
/-- A new variable. -/
theorem Rel.newBox (h : Rel X own0 w0 st a w g) (t : TypeId) {cs : List Cl} {vs : Array Value} (hc : ClsR X w st.rt g cs vs.toList) :
    ∃ g', Rel X own0 w0 (st.add (.box t cs)) a (w.alloc (.cells vs t)) g' ∧ SVR X (w.alloc (.cells vs t)) (st.add (.box t cs)).rt g' (.bx st.rt.length 0) (.pointer (some ⟨w.heap.size, 0, none⟩)) := by
  have hold : ∀ b, b < w.heap.size → (w.alloc (.cells vs t)).heap[b]? = w.heap[b]? := fun b hb => heap_alloc_old w _ b hb
  have hnew := heap_alloc_new w (.cells vs t)
  have ho := own_none_of_ge h (Nat.le_refl w.heap.size)
  have hadd : (st.add (.box t cs)).rt[st.rt.length]? = some (.box t cs) := by show (st.rt ++ [_])[st.rt.length]? = _; simp
  have hK : Keep X (fun _ => False) (fun _ => False) w g st.rt (w.alloc (.cells vs t)) (g.new w.heap.size st.rt.length undef) (st.add (.box t cs)).rt := by
    refine Keep.add st _ (fun b hb => ?_) (fun b r hb => ?_) (fun r hr => ?_)
    · obtain ⟨e1, e2, e3⟩ := hb
      exact ⟨⟨by show (if b = w.heap.size then _ else g.own b) = none; rw [if_neg (by omega)]; exact e1, by show b < (w.heap.push _).size; rw [Array.size_push]; omega, e3⟩, hold b e2⟩
    · have := h.mem.lt b (by rw [hb]; simp)
      exact ⟨by show (if b = w.heap.size then _ else g.own b) = _; rw [if_neg (by omega)]; exact hb, hold b this⟩
    · have hne : ¬ r = st.rt.length := by omega
      exact ⟨if_neg hne, if_neg hne⟩
  refine ⟨g.new w.heap.size st.rt.length undef, h.newRoot (d := 0) _ _ rfl rfl rfl (by show (w.heap.push _).size = _; rw [Array.size_push]) hold ?_, ?_, t, cs, hadd⟩
  · refine ⟨vs, ?_, ?_, ClsR.keep h.mem hK (fun x _ => Cl.avd_false x) hc⟩
    · show (w.alloc _).heap[if st.rt.length = st.rt.length then w.heap.size else _]? = _
      rw [if_pos rfl]; exact hnew
    · show (if (if st.rt.length = st.rt.length then w.heap.size else _) = w.heap.size then some st.rt.length else _) = _
      rw [if_pos rfl, if_pos rfl]
  · show _ = Value.pointer (some ⟨if st.rt.length = st.rt.length then w.heap.size else _, 0, none⟩)
    rw [if_pos rfl]
end
end Go.Proofs.Ytlkcpabdpmenpaa.Eng
/- The evaluator, part 11: new rows. Of no program. -/
namespace Go.Proofs.Ytlkcpabdpmenpaa.Eng
open Go.RowKit
set_option linter.unusedVariables false

section
variable {P : Program} {X : Ctx} {own0 : Nat → Option Nat} {w0 : World} {st : St} {a : Act} {w : World} {g : Gh}

theorem nodupB_spec : ∀ {l : List Nat}, nodupB l = true → l.Nodup
  | [], _ => List.nodup_nil
  | x :: xs, h => by
    simp only [nodupB, Bool.and_eq_true, Bool.not_eq_true', List.elem_eq_mem, decide_eq_false_iff_not] at h
    exact List.nodup_cons.2 ⟨h.1, nodupB_spec h.2⟩
theorem nodupB_of : ∀ {l : List Nat}, l.Nodup → nodupB l = true
  | [], _ => rfl
  | x :: xs, h => by
    simp only [nodupB, Bool.and_eq_true, Bool.not_eq_true', List.elem_eq_mem, decide_eq_false_iff_not]
    exact ⟨(List.nodup_cons.1 h).1, nodupB_of (List.nodup_cons.1 h).2⟩
/-- The blocks behind the cell j. -/
def CF (g : Gh) (cls : List Cl) (j b : Nat) : Prop := ∃ r p e', cls[j]? = some (.al r p e') ∧ g.own b = some r
/-- What elemU tells. -/
structure ElU (X : Ctx) (st : St) (w : World) (g : Gh) (deep : Bool) (cts : List CT) (cls : List Cl) (vs : List Value) (us : List U) (rs : List Nat) : Prop where
  l1 : us.length = cts.length
  l2 : cls.length = cts.length
  own : deep = true → ∀ (j : Nat) u ct v, us[j]? = some u → cts[j]? = some ct → vs[j]? = some v → RepO X.T.ct w (CF g cls j) ct u v
  rd : deep = false → ∀ (j : Nat) u ct v, us[j]? = some u → cts[j]? = some ct → vs[j]? = some v → RepR X.T.ct w (okb X w g) ct u v
  mem : ∀ (j : Nat) r p e, cls[j]? = some (.al r p e) → r ∈ rs
  row : ∀ r ∈ rs, (∃ e xs, st.rt[r]? = some (.row e true xs)) ∧ st.np ≤ r
  uni : rs.Nodup → ∀ (i j : Nat) r p e p' e', cls[i]? = some (.al r p e) → cls[j]? = some (.al r p' e') → i = j
theorem ElU.cons {deep : Bool} {ct : CT} {cts : List CT} {c : Cl} {cls : List Cl} {v : Value} {vs : List Value} {u : U} {us : List U} {rs : List Nat} (h : ElU X st w g deep cts cls vs us rs)
    (hc : ∀ r p e, c ≠ .al r p e) (ho : deep = true → RepO X.T.ct w (CF g (c :: cls) 0) ct u v) (hr : deep = false → RepR X.T.ct w (okb X w g) ct u v) : ElU X st w g deep (ct :: cts) (c :: cls) (v :: vs) (u :: us) rs := by
  refine ⟨by simp [h.l1], by simp [h.l2], fun hd j u' ct' v' h1 h2 h3 => ?_, fun hd j u' ct' v' h1 h2 h3 => ?_, fun j r p e hj => ?_, h.row, fun hn i j r p e p' e' hi hj => ?_⟩
  · cases j with
    | zero => simp at h1 h2 h3; subst h1 h2 h3; exact ho hd
    | succ j =>
      refine (h.own hd j u' ct' v' (by simpa using h1) (by simpa using h2) (by simpa using h3)).mono fun b hb => ?_
      obtain ⟨r, p, e, h4, h5⟩ := hb
      exact ⟨r, p, e, by simpa using h4, h5⟩
  · cases j with
    | zero => simp at h1 h2 h3; subst h1 h2 h3; exact hr hd
    | succ j => exact h.rd hd j u' ct' v' (by simpa using h1) (by simpa using h2) (by simpa using h3)
  · cases j with
    | zero => simp at hj; exact absurd hj (hc r p e)
    | succ j => exact h.mem j r p e (by simpa using hj)
  · cases i with
    | zero => simp at hi; exact absurd hi (hc r p e)
    | succ i => cases j with
      | zero => simp at hj; exact absurd hj (hc r p' e')
      | succ j => rw [h.uni hn i j r p e p' e' (by simpa using hi) (by simpa using hj)]
theorem ElU.cons_al {ct : CT} {cts : List CT} {r0 : Nat} {e0 : TypeId} {cls : List Cl} {v : Value} {vs : List Value} {u : U} {us : List U} {rs : List Nat} (h : ElU X st w g true cts cls vs us rs)
    (hrow : (∃ e xs, st.rt[r0]? = some (.row e true xs)) ∧ st.np ≤ r0) (ho : RepO X.T.ct w (fun b => g.own b = some r0) ct u v) : ElU X st w g true (ct :: cts) (.al r0 [] e0 :: cls) (v :: vs) (u :: us) (r0 :: rs) := by
  refine ⟨by simp [h.l1], by simp [h.l2], fun hd j u' ct' v' h1 h2 h3 => ?_, fun hd => (by cases hd), fun j r p e hj => ?_, fun r hr => ?_, fun hn i j r p e p' e' hi hj => ?_⟩
  · cases j with
    | zero => simp at h1 h2 h3; subst h1 h2 h3; exact ho.mono fun b hb => ⟨r0, [], e0, rfl, hb⟩
    | succ j =>
      refine (h.own hd j u' ct' v' (by simpa using h1) (by simpa using h2) (by simpa using h3)).mono fun b hb => ?_
      obtain ⟨r, p, e, h4, h5⟩ := hb
      exact ⟨r, p, e, by simpa using h4, h5⟩
  · cases j with
    | zero => simp at hj; simp [hj.1]
    | succ j => exact List.mem_cons_of_mem _ (h.mem j r p e (by simpa using hj))
  · rcases List.mem_cons.1 hr with rfl | hr
    · exact hrow
    · exact h.row r hr
  · have hn' := List.nodup_cons.1 hn
    cases i with
    | zero => cases j with
      | zero => rfl
      | succ j => simp at hi; rw [← hi.1] at hj; exact absurd (h.mem j _ _ _ (by simpa using hj)) hn'.1
    | succ i => cases j with
      | zero => simp at hj; rw [← hj.1] at hi; exact absurd (h.mem i _ _ _ (by simpa using hi)) hn'.1
      | succ j => rw [h.uni hn'.2 i j r p e p' e' (by simpa using hi) (by simpa using hj)]
theorem elemU_spec (hm : Mem X st w g) {deep : Bool} : ∀ {cts : List CT} {cls : List Cl} {vs : List Value} {us : List U} {rs : List Nat}, elemU st.rt st.np deep cts cls = some (us, rs) → ClsR X w st.rt g cls vs → ElU X st w g deep cts cls vs us rs
  | [], [], [], us, rs, hq, _ => by
    cases hq
    exact ⟨rfl, rfl, fun _ j u ct v h => by simp at h, fun _ j u ct v h => by simp at h, fun j r p e h => by simp at h, fun r h => by simp at h, fun _ i j r p e p' e' h => by simp at h⟩
  | .slc e :: ts, .nil :: xs, v :: vs, us, rs, hq, hc => by
    unfold elemU at hq
    obtain ⟨y, h1, h2⟩ := Option.map_eq_some_iff.1 hq
    cases h2
    obtain rfl : v = .slice none 0 0 := hc.1
    exact (elemU_spec hm h1 hc.2).cons (fun _ _ _ h => by cases h) (fun _ => RepO.nil e) (fun _ => RepR.nil e 0 none)
  | .slc e :: ts, .rd e' ys :: xs, v :: vs, us, rs, hq, hc => by
    unfold elemU at hq
    split at hq
    · rename_i hh
      obtain ⟨rfl, rfl⟩ := hh
      obtain ⟨y, h1, h2⟩ := Option.map_eq_some_iff.1 hq
      cases h2
      exact (elemU_spec hm h1 hc.2).cons (fun _ _ _ h => by cases h) (fun h => by cases h) (fun _ => hc.1)
    · cases hq
  | .slc e :: ts, .al r [] e' :: xs, v :: vs, us, rs, hq, hc => by
    unfold elemU at hq
    split at hq
    · rename_i hh
      obtain ⟨rfl, rfl, hnp⟩ := hh
      split at hq
      · rename_i e2 ys hr
        obtain ⟨y, h1, h2⟩ := Option.map_eq_some_iff.1 hq
        cases h2
        refine (elemU_spec hm h1 hc.2).cons_al ⟨⟨e2, ys, hr⟩, hnp⟩ ?_
        obtain ⟨e0, d, zs, h3, _, h4⟩ := hc.1
        obtain ⟨rfl, rfl, rfl⟩ : e2 = e0 ∧ true = d ∧ ys = zs := by rw [hr] at h3; cases h3; exact ⟨rfl, rfl, rfl⟩
        obtain ⟨h5, -, h6⟩ := h4.nil_inv
        rw [h6, h5]
        exact hm.rt r _ hr
      · cases hq
    · cases hq
  | .int k :: ts, .int k' n :: xs, v :: vs, us, rs, hq, hc => by
    unfold elemU at hq
    split at hq
    · rename_i hk; subst hk
      obtain ⟨y, h1, h2⟩ := Option.map_eq_some_iff.1 hq
      cases h2
      obtain rfl : v = .int k n := hc.1
      exact (elemU_spec hm h1 hc.2).cons (fun _ _ _ h => by cases h) (fun _ => .int _ k n) (fun _ => .int k n)
    · cases hq
  | .bool :: ts, .bool b :: xs, v :: vs, us, rs, hq, hc => by
    unfold elemU at hq
    obtain ⟨y, h1, h2⟩ := Option.map_eq_some_iff.1 hq
    cases h2
    obtain rfl : v = .bool b := hc.1
    exact (elemU_spec hm h1 hc.2).cons (fun _ _ _ h => by cases h) (fun _ => .bool _ b) (fun _ => .bool b)
  | .str :: ts, .str b :: xs, v :: vs, us, rs, hq, hc => by
    unfold elemU at hq
    obtain ⟨y, h1, h2⟩ := Option.map_eq_some_iff.1 hq
    cases h2
    obtain rfl : v = .string b := hc.1
    exact (elemU_spec hm h1 hc.2).cons (fun _ _ _ h => by cases h) (fun _ => .str _ b) (fun _ => .str b)
  | _, _ :: _, [], _, _, _, hc => hc.elim
  | [], [], _ :: _, _, _, _, hc => hc.elim
  | [], _ :: _, _ :: _, _, _, hq, _ => by simp [elemU] at hq
  | _ :: _, [], _, _, _, hq, _ => by simp [elemU] at hq
  | .slc e :: ts, .al r (x :: p) e' :: xs, v :: vs, us, rs, hq, hc => by simp [elemU] at hq
  | .slc e :: ts, .int .. :: xs, v :: vs, us, rs, hq, hc => by simp [elemU] at hq
  | .slc e :: ts, .bool .. :: xs, v :: vs, us, rs, hq, hc => by simp [elemU] at hq
  | .slc e :: ts, .str .. :: xs, v :: vs, us, rs, hq, hc => by simp [elemU] at hq
  | .slc e :: ts, .no :: xs, v :: vs, us, rs, hq, hc => by simp [elemU] at hq
  | .int k :: ts, .bool .. :: xs, v :: vs, us, rs, hq, hc => by simp [elemU] at hq
  | .int k :: ts, .str .. :: xs, v :: vs, us, rs, hq, hc => by simp [elemU] at hq
  | .int k :: ts, .rd .. :: xs, v :: vs, us, rs, hq, hc => by simp [elemU] at hq
  | .int k :: ts, .nil :: xs, v :: vs, us, rs, hq, hc => by simp [elemU] at hq
  | .int k :: ts, .al .. :: xs, v :: vs, us, rs, hq, hc => by simp [elemU] at hq
  | .int k :: ts, .no :: xs, v :: vs, us, rs, hq, hc => by simp [elemU] at hq
  | .bool :: ts, .int .. :: xs, v :: vs, us, rs, hq, hc => by simp [elemU] at hq
  | .bool :: ts, .str .. :: xs, v :: vs, us, rs, hq, hc => by simp [elemU] at hq
  | .bool :: ts, .rd .. :: xs, v :: vs, us, rs, hq, hc => by simp [elemU] at hq
  | .bool :: ts, .nil :: xs, v :: vs, us, rs, hq, hc => by simp [elemU] at hq
  | .bool :: ts, .al .. :: xs, v :: vs, us, rs, hq, hc => by simp [elemU] at hq
  | .bool :: ts, .no :: xs, v :: vs, us, rs, hq, hc => by simp [elemU] at hq
  | .str :: ts, .int .. :: xs, v :: vs, us, rs, hq, hc => by simp [elemU] at hq
  | .str :: ts, .bool .. :: xs, v :: vs, us, rs, hq, hc => by simp [elemU] at hq
  | .str :: ts, .rd .. :: xs, v :: vs, us, rs, hq, hc => by simp [elemU] at hq
  | .str :: ts, .nil :: xs, v :: vs, us, rs, hq, hc => by simp [elemU] at hq
  | .str :: ts, .al .. :: xs, v :: vs, us, rs, hq, hc => by simp [elemU] at hq
  | .str :: ts, .no :: xs, v :: vs, us, rs, hq, hc => by simp [elemU] at hq

/-- What elemsU tells. -/
structure ElsU (X : Ctx) (st : St) (w : World) (g : Gh) (deep : Bool) (cts : List CT) (els : List (List Cl)) (vss : List (List Value)) (xs : List (List U)) (rs : List Nat) : Prop where
  len : xs.length = els.length
  el : ∀ (i : Nat) cls vs us, els[i]? = some cls → vss[i]? = some vs → xs[i]? = some us → ∃ rs', ElU X st w g deep cts cls vs us rs'
  sz : ∀ (i : Nat) us, xs[i]? = some us → us.length = cts.length
  mem : ∀ (i j : Nat) cls r p e, els[i]? = some cls → cls[j]? = some (.al r p e) → r ∈ rs
  row : ∀ r ∈ rs, (∃ e xs, st.rt[r]? = some (.row e true xs)) ∧ st.np ≤ r
  uni : rs.Nodup → ∀ (i i' j j' : Nat) cls cls' r p e p' e', els[i]? = some cls → els[i']? = some cls' → cls[j]? = some (.al r p e) → cls'[j']? = some (.al r p' e') → i = i' ∧ j = j'
theorem elemsU_spec (hm : Mem X st w g) {deep : Bool} {cts : List CT} : ∀ {els : List (List Cl)} {vss : List (List Value)} {xs : List (List U)} {rs : List Nat}, elemsU st.rt st.np deep cts els = some (xs, rs) → els.length = vss.length →
    (∀ (i : Nat) cls vs, els[i]? = some cls → vss[i]? = some vs → ClsR X w st.rt g cls vs) → ElsU X st w g deep cts els vss xs rs
  | [], vss, xs, rs, hq, _, _ => by
    cases hq
    exact ⟨rfl, fun i cls vs us h => by simp at h, fun i us h => by simp at h, fun i j cls r p e h => by simp at h, fun r h => by simp at h, fun _ i i' j j' cls cls' r p e p' e' h => by simp at h⟩
  | cls :: els, [], xs, rs, hq, hl, _ => by simp at hl
  | cls :: els, vs :: vss, xs, rs, hq, hl, hc => by
    unfold elemsU at hq
    split at hq
    · rename_i y z hy hz
      obtain ⟨us, ra⟩ := y
      obtain ⟨xs', rb⟩ := z
      cases hq
      have h1 := elemU_spec hm hy (hc 0 cls vs rfl rfl)
      have h2 := elemsU_spec hm (vss := vss) hz (by simpa using hl) fun i cls' vs' hi hv => hc (i + 1) cls' vs' (by simpa using hi) (by simpa using hv)
      refine ⟨by simp [h2.len], fun i cls' vs' us' h3 h4 h5 => ?_, fun i us' h3 => ?_, fun i j cls' r p e h3 h4 => ?_, fun r hr => ?_, fun hn i i' j j' c c' r p e p' e' h3 h4 h5 h6 => ?_⟩
      · cases i with
        | zero => simp at h3 h4 h5; subst h3 h4 h5; exact ⟨ra, h1⟩
        | succ i => exact h2.el i cls' vs' us' (by simpa using h3) (by simpa using h4) (by simpa using h5)
      · cases i with
        | zero => simp at h3; subst h3; exact h1.l1
        | succ i => exact h2.sz i us' (by simpa using h3)
      · cases i with
        | zero => simp at h3; subst h3; exact List.mem_append_left _ (h1.mem j r p e h4)
        | succ i => exact List.mem_append_right _ (h2.mem i j cls' r p e (by simpa using h3) h4)
      · rcases List.mem_append.1 hr with hr | hr
        · exact h1.row r hr
        · exact h2.row r hr
      · obtain ⟨n1, n2, n3⟩ := List.nodup_append.1 hn
        cases i with
        | zero => cases i' with
          | zero => simp at h3 h4; subst h3 h4; exact ⟨rfl, h1.uni n1 j j' r p e p' e' h5 h6⟩
          | succ i' => simp at h3; subst h3; exact absurd rfl (n3 r (h1.mem j r p e h5) r (h2.mem i' j' c' r p' e' (by simpa using h4) h6))
        | succ i => cases i' with
          | zero => simp at h4; subst h4; exact absurd rfl (n3 r (h1.mem j' r p' e' h6) r (h2.mem i j c r p e (by simpa using h3) h5))
          | succ i' =>
            obtain ⟨e1, e2⟩ := h2.uni n2 i i' j j' c c' r p e p' e' (by simpa using h3) (by simpa using h4) h5 h6
            exact ⟨by rw [e1], e2⟩
    · cases hq
end
end Go.Proofs.Ytlkcpabdpmenpaa.Eng
/- The evaluator, part 12: new rows, as roots. Of no program. -/
namespace Go.Proofs.Ytlkcpabdpmenpaa.Eng
open Go.RowKit
set_option linter.unusedVariables false

section
variable {P : Program} {X : Ctx} {own0 : Nat → Option Nat} {w0 : World} {st : St} {a : Act} {w w' : World} {g g' : Gh}

theorem Cl.avd_of_free {Q B : Nat → Prop} {rt0 : List Root} {x : Cl} (h : x.free Q) : x.avd Q B rt0 := by cases x <;> first | exact fun _ => .inl h | trivial
theorem SV.avd_of_free {Q B : Nat → Prop} {rt0 : List Root} {x : SV} (h : x.free Q) : x.avd Q B rt0 := by
  cases x with
  | c x => exact Cl.avd_of_free h
  | ag xs => exact fun y hy => Cl.avd_of_free (h y hy)
  | po => exact fun _ => .inl h
  | fn f caps =>
    intro y hy
    cases y with
    | c x => exact Cl.avd_of_free (h _ hy)
    | _ => trivial
  | tup vs => exact fun y hy z hz => Cl.avd_of_free (h y hy z hz)
  | _ => trivial
theorem Root.avd_of_free {Q B : Nat → Prop} {rt0 : List Root} {x : Root} (h : x.free Q) : x.avd Q B rt0 := by
  cases x with
  | box t cs => exact fun y hy => Cl.avd_of_free (h y hy)
  | _ => trivial
/-- A new root, into which the roots of Q have gone. -/
theorem Rel.addQ (h : Rel X own0 w0 st a w g) {Q : Nat → Prop} (hf : st.free Q) (hq : ∀ s x, Q s → st.rt[s]? = some x → x = .gone) (x : Root)
    (hK : Keep X Q (fun _ => False) w g st.rt w' g' (st.add x).rt) (hx : RootR X w' (st.add x).rt g' st.rt.length x) (lt : ∀ b, g'.own b ≠ none → b < w'.heap.size)
    (ob : ∀ b s, g'.own b = some s → s < st.rt.length + 1) (n0 : w.heap.size ≤ w'.heap.size) (pm : ∀ b s, g'.own b = some s → X.nw b ∨ (s < X.np ∧ X.po b = some s)) (pv : ∀ s, s < X.np → g'.v s = X.pv s) (fr : Fr own0 w0 w' g') : Rel X own0 w0 (st.add x) a w' g' := by
  have hl : (st.add x).rt.length = st.rt.length + 1 := by show (st.rt ++ [x]).length = _; simp
  refine ⟨⟨fun i y hy => ?_, lt, fun b s hb => by rw [hl]; exact ob b s hb, h.mem.nle n0, h.mem.np, by rw [hl]; exact Nat.le_succ_of_le h.mem.nl, pm, pv⟩, h.sz, fun i sv hsv => SVR.keep h.mem hK (SV.avd_of_free (hf.1 sv (List.mem_of_getElem? hsv))) (h.sl i sv hsv), h.df, fr⟩
  by_cases hi : i < st.rt.length
  · rw [add_rt st x i hi] at hy
    by_cases hqi : Q i
    · obtain rfl := hq i y hqi hy; trivial
    · exact RootR.keep h.mem hK hy hqi (Root.avd_of_free (hf.2 y (List.mem_of_getElem? hy)))
  · have hlt := lt_of_some hy
    rw [hl] at hlt
    obtain rfl : i = st.rt.length := by omega
    have : (st.rt ++ [x])[st.rt.length]? = some x := by simp
    obtain rfl := Option.some.inj (this.symm.trans hy)
    exact hx
/-- The roots rs become root n's; so does the new block. -/
def Gh.into (g : Gh) (b n : Nat) (rs : List Nat) (v : Value) : Gh :=
  ⟨fun x => if x = b then some n else match g.own x with | some r => if r ∈ rs then some n else some r | none => none, fun r => if r = n then v else g.v r, g.b⟩
theorem Gh.into_new (g : Gh) (b n : Nat) (rs : List Nat) (v : Value) : (g.into b n rs v).own b = some n := if_pos rfl
theorem Gh.into_none (g : Gh) {b n : Nat} {rs : List Nat} {v : Value} {x : Nat} (hx : x ≠ b) (h : g.own x = none) : (g.into b n rs v).own x = none := by
  show (if x = b then _ else _) = _
  rw [if_neg hx, h]
theorem Gh.into_some (g : Gh) {b n : Nat} {rs : List Nat} {v : Value} {x r : Nat} (hx : x ≠ b) (h : g.own x = some r) : (g.into b n rs v).own x = if r ∈ rs then some n else some r := by
  show (if x = b then _ else _) = _
  rw [if_neg hx, h]
/-- Which element's cell a block belongs to. -/
noncomputable def labOf (g : Gh) (els : List (List Cl)) (b : Nat) : Option (Nat × Nat) :=
  open Classical in if h : ∃ ij : Nat × Nat, CF g (els.getD ij.1 []) ij.2 b then some (Classical.choose h) else none
theorem labOf_eq {deep : Bool} {cts : List CT} {els : List (List Cl)} {vss : List (List Value)} {xs : List (List U)} {rs : List Nat} (hs : ElsU X st w g deep cts els vss xs rs) (hn : rs.Nodup) {i j b : Nat} {cls : List Cl} (hi : els[i]? = some cls) (h : CF g cls j b) : labOf g els b = some (i, j) := by
  have hex : ∃ ij : Nat × Nat, CF g (els.getD ij.1 []) ij.2 b := ⟨(i, j), by rw [getD_of_some hi]; exact h⟩
  unfold labOf
  rw [dif_pos hex]
  have h2 := Classical.choose_spec hex
  generalize Classical.choose hex = ij at h2
  obtain ⟨i', j'⟩ := ij
  obtain ⟨r, p, e, h3, h4⟩ := h
  obtain ⟨r', p', e', h5, h6⟩ := h2
  obtain rfl : r = r' := by rw [h4] at h6; exact Option.some.inj h6
  have hi' : i' < els.length := by
    refine Nat.lt_of_not_le fun hge => ?_
    simp only at h5
    rw [List.getD_eq_getElem?_getD, List.getElem?_eq_none hge] at h5
    simp at h5
  obtain ⟨e1, e2⟩ := hs.uni hn i i' j j' cls _ r p e p' e' hi (getD_lt (d := []) hi') h3 h5
  rw [e1, e2]
theorem labOf_none {els : List (List Cl)} {b : Nat} (h : g.own b = none) : labOf g els b = none := by
  unfold labOf
  rw [dif_neg]
  rintro ⟨ij, r, p, e, h1, h2⟩
  rw [h] at h2; cases h2
theorem consume_np : ∀ (rs : List Nat) (st : St), (st.consume rs).np = st.np
  | [], st => rfl
  | r :: rs, st => consume_np rs _
theorem free_drop {rs : List Nat} {st : St} (h : st.free (fun s => s ∈ rs ∨ False)) : st.free (fun s => s ∈ rs) := by simpa using h
/-- Where a new element's cells lie in the new row. -/
structure Lies (e : Nat) (vss : List (List Value)) (cs : List Value) : Prop where
  cell : ∀ (i j : Nat) vs, vss[i]? = some vs → j < e → ∃ v, vs[j]? = some v ∧ cs[i * e + j]? = some v
/-- Roots that went into the elements: their blocks. -/
theorem RepO.elems (h : Rel X own0 w0 st a w g) {deep : Bool} {e : TypeId} {els : List (List Cl)} {vss : List (List Value)} {xs : List (List U)} {rs : List Nat} (hs : ElsU X st w g deep (X.T.ct e) els vss xs rs) (hn : rs.Nodup)
    (hl : els.length = vss.length) {cs : List Value} (hcs : Lies (X.T.size e) vss cs) {w' : World} (hw : ∀ b, b < w.heap.size → w'.heap[b]? = w.heap[b]?) {F : Nat → Prop} (hF : ∀ b r, g.own b = some r → r ∈ rs → F b)
    {ok : Nat → Prop} (hk : ∀ b, okb X w g b → ok b) :
    ∃ V : Nat → Nat → Value, (∀ (i j : Nat) (x : List U), xs[i]? = some x → j < x.length → cs[i * X.T.size e + j]? = some (V i j)) ∧
      (deep = true → ∀ (i j : Nat) (x : List U) (u : U) (ct : CT), xs[i]? = some x → x[j]? = some u → (X.T.ct e)[j]? = some ct → RepO X.T.ct w' (fun b => F b ∧ labOf g els b = some (i, j)) ct u (V i j)) ∧
      (deep = false → ∀ (i j : Nat) (x : List U) (u : U) (ct : CT), xs[i]? = some x → x[j]? = some u → (X.T.ct e)[j]? = some ct → RepR X.T.ct w' ok ct u (V i j)) := by
  have key : ∀ (i j : Nat) (x : List U), xs[i]? = some x → j < x.length → ∃ cls vs v rs', els[i]? = some cls ∧ vss[i]? = some vs ∧ vs[j]? = some v ∧ cs[i * X.T.size e + j]? = some v ∧ ElU X st w g deep (X.T.ct e) cls vs x rs' := by
    intro i j x hx hj
    have h1 : i < els.length := by rw [← hs.len]; exact lt_of_some hx
    have h2 : i < vss.length := by rw [← hl]; exact h1
    have h3 := hs.sz i x hx
    obtain ⟨v, h4, h5⟩ := hcs.cell i j _ (List.getElem?_eq_getElem h2) (by show j < (X.T.ct e).length; omega)
    obtain ⟨rs', h6⟩ := hs.el i _ _ _ (List.getElem?_eq_getElem h1) (List.getElem?_eq_getElem h2) hx
    exact ⟨_, _, v, rs', List.getElem?_eq_getElem h1, List.getElem?_eq_getElem h2, h4, h5, h6⟩
  refine ⟨fun i j => (cs[i * X.T.size e + j]?).getD undef, fun i j x hx hj => ?_, fun hd i j x u ct hx hu hct => ?_, fun hd i j x u ct hx hu hct => ?_⟩
  · obtain ⟨cls, vs, v, rs', h1, h2, h3, h4, h5⟩ := key i j x hx hj
    dsimp only
    rw [h4]; rfl
  · obtain ⟨cls, vs, v, rs', h1, h2, h3, h4, h5⟩ := key i j x hx (lt_of_some hu)
    dsimp only
    rw [h4]
    refine (h5.own hd j u ct v hu hct h3).imp fun b hb => ?_
    have hb' := hb
    obtain ⟨r, p, e', h6, h7⟩ := hb
    exact ⟨⟨hF b r h7 (hs.mem i j cls r p e' h1 h6), labOf_eq hs hn h1 hb'⟩, hw b (h.mem.lt b (by rw [h7]; simp))⟩
  · obtain ⟨cls, vs, v, rs', h1, h2, h3, h4, h5⟩ := key i j x hx (lt_of_some hu)
    dsimp only
    rw [h4]
    exact (h5.rd hd j u ct v hu hct h3).imp fun b hb => ⟨hk b hb, hw b hb.2.1⟩
/-- A new row. -/
theorem Rel.newRow (h : Rel X own0 w0 st a w g) {deep : Bool} {e : TypeId} {els : List (List Cl)} {vss : List (List Value)} {xs : List (List U)} {rs : List Nat} (hs : ElsU X st w g deep (X.T.ct e) els vss xs rs) (hn : nodupB rs = true)
    (hl : els.length = vss.length) {cs : Array Value} {cap : Nat} (hcs : Lies (X.T.size e) vss (cs.toList.take (els.length * X.T.size e))) (hsz : cs.size = cap * X.T.size e) (hcap : els.length ≤ cap) (hmax : cap ≤ maxLen) :
    ∃ g', Rel X own0 w0 ((st.consume rs).add (.row e deep xs)) a (w.alloc (.cells cs e)) g' ∧
      SVR X (w.alloc (.cells cs e)) ((st.consume rs).add (.row e deep xs)).rt g' (.c (.al st.rt.length [] e)) (.slice (some ⟨w.heap.size, 0, none⟩) els.length cap) := by
  have hrow : ∀ r ∈ rs, IsRow st.rt r := fun r hr => by obtain ⟨⟨e', ys, h1⟩, _⟩ := hs.row r hr; exact ⟨e', true, ys, h1⟩
  have h1 := h.consume rs hrow hn
  have hlen : (st.consume rs).rt.length = st.rt.length := consume_len rs st
  have hfree : (st.consume rs).free (fun s => s ∈ rs) := free_drop (consume_free rs (St.free_false st))
  have hold : ∀ b, b < w.heap.size → (w.alloc (.cells cs e)).heap[b]? = w.heap[b]? := fun b hb => heap_alloc_old w _ b hb
  have hnew := heap_alloc_new w (.cells cs e)
  have hs' : (w.alloc (.cells cs e)).heap.size = w.heap.size + 1 := by show (w.heap.push _).size = _; rw [Array.size_push]
  have ho := own_none_of_ge h (Nat.le_refl w.heap.size)
  let g' := g.into w.heap.size st.rt.length rs (.slice (some ⟨w.heap.size, 0, none⟩) els.length cap)
  have hlt : ∀ b r, g.own b = some r → b < w.heap.size := fun b r hb => h.mem.lt b (by rw [hb]; simp)
  have hadd : ((st.consume rs).add (.row e deep xs)).rt[st.rt.length]? = some (.row e deep xs) := by
    show ((st.consume rs).rt ++ [_])[_]? = _
    rw [List.getElem?_append_right (by rw [hlen]; exact Nat.le_refl _), hlen]; simp
  have hokb : ∀ b, okb X w g b → okb X (w.alloc (.cells cs e)) g' b := fun b hb => ⟨g.into_none (by have := hb.2.1; omega) hb.1, by rw [hs']; have := hb.2.1; omega, hb.2.2⟩
  have hK : Keep X (fun s => s ∈ rs) (fun _ => False) w g (st.consume rs).rt (w.alloc (.cells cs e)) g' ((st.consume rs).add (.row e deep xs)).rt := by
    refine ⟨fun b hb => ⟨hokb b hb, hold b hb.2.1⟩, fun b r hr hb => ?_, fun r hr _ => ?_, fun r e' d ys _ hr => ?_, fun r t cs' hr => ⟨rfl, cs', ?_⟩, fun _ hb => hb.elim⟩
    · have := hlt b r hb
      exact ⟨by rw [g.into_some (by omega) hb, if_neg hr], hold b this⟩
    · show (if r = st.rt.length then _ else _) = _
      rw [if_neg (by rw [hlen] at hr; omega)]
    · rw [add_rt _ _ _ (lt_of_some hr)]; exact hr
    · rw [add_rt _ _ _ (lt_of_some hr)]; exact hr
  have hv : g'.v st.rt.length = .slice (some ⟨w.heap.size, 0, none⟩) els.length cap := if_pos rfl
  have hF : ∀ b r, g.own b = some r → r ∈ rs → g'.own b = some st.rt.length := fun b r hb hr => by
    have := hlt b r hb
    rw [g.into_some (by omega) hb, if_pos hr]
  obtain ⟨V, hV, hV1, hV2⟩ := RepO.elems h hs (nodupB_spec hn) hl hcs hold hF hokb
  have hown : (w.alloc (.cells cs e)).ownsRow 0 e (X.T.ct e).length (.slice (some ⟨w.heap.size, 0, none⟩) els.length cap) xs.length (cs.toList.take (els.length * X.T.size e)) := by
    rw [hs.len]
    have := Nat.mul_le_mul_right (X.T.size e) hcap
    have hcl : cs.toList.length = cap * X.T.size e := by rw [Array.length_toList]; exact hsz
    exact ⟨by rw [List.length_take, hcl]; exact Nat.min_eq_left this, .inr ⟨w.heap.size, cap, cs, rfl, Nat.zero_le _, hnew, hcap, hmax, hsz, rfl⟩⟩
  refine ⟨g', ?_, ?_⟩
  · refine h1.addQ hfree (fun s x hq hx => ?_) _ hK ?_ (fun b hb => ?_) (fun b s hb => ?_) (by rw [hs']; omega) (fun b s hb => ?_) (fun s hp => ?_) (h.fr.new rfl rfl rfl (by rw [hs']; omega) hold fun b hb hno => g.into_none (by omega) hno)
    · have := consume_gone rs hrow hn hq
      rw [this] at hx; exact (Option.some.inj hx).symm
    · rw [hlen]
      cases deep with
      | true =>
        show RepO _ _ _ _ _ (g'.v _)
        rw [hv]
        refine .row _ e xs _ _ V (labOf g els) (.of hown) (fun b hb => ?_) hV (fun i x hx => hs.sz i x hx) (hV1 rfl)
        simp only [Value.ownBlock, Option.some.injEq] at hb
        subst hb
        exact ⟨g.into_new _ _ _ _, labOf_none ho⟩
      | false =>
        show RepS _ _ _ _ _ _ (g'.v _)
        rw [hv]
        refine ⟨_, V, .of hown, fun b hb => ?_, hV, fun i x hx => hs.sz i x hx, hV2 rfl⟩
        simp only [Value.ownBlock, Option.some.injEq] at hb
        subst hb
        exact g.into_new _ _ _ _
    · rw [hs']
      by_cases hbe : b = w.heap.size
      · omega
      · cases hx : g.own b with
        | none => exact absurd (g.into_none hbe hx) hb
        | some r => have := hlt b r hx; omega
    · rw [hlen]
      by_cases hbe : b = w.heap.size
      · subst hbe
        rw [show g'.own w.heap.size = some st.rt.length from g.into_new _ _ _ _] at hb; cases hb; omega
      · cases hx : g.own b with
        | none => rw [show g'.own b = none from g.into_none hbe hx] at hb; cases hb
        | some r =>
          rw [show g'.own b = _ from g.into_some hbe hx] at hb
          have := h.mem.ob b r hx
          split at hb <;> (cases hb; omega)
    · by_cases hbe : b = w.heap.size
      · exact .inl (h.mem.n0 _ (by omega))
      · cases hx : g.own b with
        | none => rw [show g'.own b = none from g.into_none hbe hx] at hb; cases hb
        | some r =>
          rw [show g'.own b = _ from g.into_some hbe hx] at hb
          have h5 := h.mem.pm b r hx
          split at hb
          · rename_i hr
            have := (hs.row r hr).2
            rw [h.mem.np] at this
            exact .inl (h5.resolve_right fun hh => by omega)
          · cases hb; exact h5
    · show (if s = st.rt.length then _ else _) = _
      have := h.mem.nl
      rw [if_neg (by omega)]; exact h.mem.pv s hp
  · refine SVR.ofCl ⟨e, deep, xs, hadd, .inl rfl, ?_⟩
    rw [hv]; exact .nil _ _ _
end
end Go.Proofs.Ytlkcpabdpmenpaa.Eng
/- The evaluator, part 13: alloc, box, literals, make. Of no program. -/
namespace Go.Proofs.Ytlkcpabdpmenpaa.Eng
open Go.RowKit
set_option linter.unusedVariables false

section
variable {P : Program} {X : Ctx} {own0 : Nat → Option Nat} {w0 : World} {st : St} {a : Act} {w w' : World} {g g' : Gh} {R : Type}

/-- The operation is carried out, and leaves such a state. -/
def OpTo (P : Program) (X : Ctx) (own0 : Nat → Option Nat) (w0 : World) (o : Oper) (a : Act) (w : World) (st' : St) : Prop :=
  ∀ (next : Act → World → Prop) (Q : Exit → Act → World → Prop), (∀ v w' g', Rel X own0 w0 st' (a.put o.dst v) w' g' → next (a.put o.dst v) w') → o.wp P a w next Q
theorem OpTo.value {o : Oper} {v : Value} {st' : St} (hr : (execOp a.eval o).run P w = .ok (.value v) w') (h : Rel X own0 w0 st' (a.put o.dst v) w' g') : OpTo P X own0 w0 o a w st' := by
  intro next Q hn
  unfold Oper.wp
  rw [hr]
  exact hn _ _ _ h
theorem OpTo.skip {o : Oper} {st' : St} (hr : (execOp a.eval o).run P w = .ok .skip w') (h : Rel X own0 w0 st' (a.put o.dst undef) w' g') : OpTo P X own0 w0 o a w st' := by
  intro next Q hn
  unfold Oper.wp
  rw [hr]
  exact hn _ _ _ h

theorem zeroCells_sound (hT : TabOk P X.T) {e : TypeId} (hs : X.T.size e ≠ 0) (n : Nat) : ClsR X w st.rt g (zeroCells (X.T.ct e) n) ((Array.range n).map ((X.T.row e).zero.cells[· % (X.T.row e).zero.cells.size]!)).toList := by
  refine ClsR.ofGet (by simp [zeroCells]) fun i x v hx hv => ?_
  have hi : i < n := by
    have := lt_of_some hx
    simpa [zeroCells] using this
  have hz : (X.T.row e).zero.cells = ((X.T.ct e).map zeroV).toArray := TRow.zero_cells' hT e
  have hm : i % (X.T.ct e).length < (X.T.ct e).length := Nat.mod_lt _ (Nat.pos_of_ne_zero hs)
  obtain rfl : x = zeroCl ((X.T.ct e).getD (i % (X.T.ct e).length) .bool) := by
    simp only [zeroCells, List.getElem?_map, List.getElem?_range hi, Option.map_some, Option.some.injEq] at hx
    exact hx.symm
  have hv' : v = zeroV ((X.T.ct e).getD (i % (X.T.ct e).length) .bool) := by
    rw [hz] at hv
    simp only [Array.toList_map, Array.toList_range, List.getElem?_map, List.getElem?_range hi, Option.map_some, Option.some.injEq] at hv
    rw [← hv]
    simp [hm]
  rw [hv']
  generalize (X.T.ct e).getD (i % (X.T.ct e).length) .bool = c
  cases c <;> rfl
theorem chunk_get {size len : Nat} {cs : List Cl} {i : Nat} {x : List Cl} (h : (chunk size cs len)[i]? = some x) : i < len ∧ x = (cs.drop (i * size)).take size := by
  unfold chunk at h
  rw [List.getElem?_map] at h
  obtain ⟨y, hy, rfl⟩ := Option.map_eq_some_iff.1 h
  obtain ⟨h1, h2⟩ := List.getElem?_eq_some_iff.1 hy
  simp at h1 h2
  subst h2
  exact ⟨h1, rfl⟩
def chunkV (size : Nat) (cs : List Value) (len : Nat) : List (List Value) := (List.range len).map fun i => (cs.drop (i * size)).take size
theorem chunkV_get {size len : Nat} {cs : List Value} {i : Nat} {x : List Value} (h : (chunkV size cs len)[i]? = some x) : i < len ∧ x = (cs.drop (i * size)).take size := by
  unfold chunkV at h
  rw [List.getElem?_map] at h
  obtain ⟨y, hy, rfl⟩ := Option.map_eq_some_iff.1 h
  obtain ⟨h1, h2⟩ := List.getElem?_eq_some_iff.1 hy
  simp at h1 h2
  subst h2
  exact ⟨h1, rfl⟩
theorem mul_lt_of {i j size len : Nat} (hi : i < len) (hj : j < size) : i * size + j < len * size := by
  have := Nat.mul_le_mul_right size (Nat.succ_le_of_lt hi)
  rw [Nat.succ_mul] at this
  omega
theorem Lies.chunk {size len : Nat} {cs : List Value} (hl : cs.length = len * size) : Lies size (chunkV size cs len) cs := by
  refine ⟨fun i j vs hi hj => ?_⟩
  obtain ⟨h1, rfl⟩ := chunkV_get hi
  have h2 := mul_lt_of h1 hj
  have h3 : i * size + j < cs.length := by omega
  refine ⟨cs[i * size + j], ?_, List.getElem?_eq_getElem h3⟩
  rw [List.getElem?_take, if_pos hj, List.getElem?_drop, List.getElem?_eq_getElem h3]
theorem newRow1_sound (h : Rel X own0 w0 st a w g) {e : TypeId} {len : Nat} {cls : List Cl} {cs : Array Value} (hc : ClsR X w st.rt g cls cs.toList) (hl : cls.length = len * X.T.size e) (hmax : len ≤ maxLen) {d : Option Tmp} {K : St → Option R} {r : R}
    {deep : Bool} (hq : newRow1 X.T st e deep (chunk (X.T.size e) cls len) d K = some r) :
    ∃ st' g', K st' = some r ∧ Rel X own0 w0 st' (a.put d (.slice (some ⟨w.heap.size, 0, none⟩) len len)) (w.alloc (.cells cs e)) g' := by
  unfold newRow1 at hq
  split at hq
  · rename_i xs rs he
    split at hq
    · rename_i hn
      have hlc : (chunk (X.T.size e) cls len).length = len := by simp [chunk]
      have hcl : cs.toList.length = len * X.T.size e := by rw [← hc.length]; exact hl
      have hs := elemsU_spec h.mem (vss := chunkV (X.T.size e) cs.toList len) he (by simp [chunk, chunkV]) fun i c v hi hv => by
        obtain ⟨_, rfl⟩ := chunk_get hi
        obtain ⟨_, rfl⟩ := chunkV_get hv
        exact (hc.drop _).take _
      obtain ⟨g', h1, h2⟩ := h.newRow hs hn (by simp [chunk, chunkV]) (cs := cs) (cap := len) (by rw [hlc, List.take_of_length_le (by omega)]; exact Lies.chunk hcl) (by rw [← Array.length_toList]; exact hcl) (by rw [hlc]; exact Nat.le_refl _) hmax
      rw [hlc] at h2
      have hlen : (st.consume rs).rt.length = st.rt.length := consume_len rs st
      refine ⟨_, g', hq, ?_⟩
      exact h1.put d h2
    · cases hq
  · cases hq
theorem rowBoxK_sound (h : Rel X own0 w0 st a w g) {t : TypeId} {cls : List Cl} {cs : Array Value} (hc : ClsR X w st.rt g cls cs.toList) {d : Option Tmp} {K : St → Option R} {r : R} (hq : rowBoxK X.T st t cls d K = some r) :
    ∃ st' g', K st' = some r ∧ Rel X own0 w0 st' (a.put d (.pointer (some ⟨w.heap.size, 0, none⟩))) (w.alloc (.cells cs t)) g' := by
  unfold rowBoxK at hq
  split at hq
  · rename_i hz
    split at hq
    · rename_i xs rs he
      split at hq
      · rename_i hn
        have hcl : cs.toList.length = X.T.size t := by rw [← hc.length]; exact hz.2
        have hs := elemsU_spec h.mem (vss := [cs.toList]) he rfl fun i c v hi hv => by
          cases i with
          | zero => cases hi; cases hv; exact hc
          | succ i => simp at hi
        obtain ⟨g', h1, h2⟩ := h.newRow hs hn rfl (cs := cs) (cap := 1) (by
          rw [List.length_singleton, Nat.one_mul, List.take_of_length_le (by omega)]
          refine ⟨fun i j vs hi hj => ?_⟩
          cases i with
          | zero =>
            cases hi
            have hj : j < cs.toList.length := by omega
            exact ⟨cs.toList[j], List.getElem?_eq_getElem hj, by rw [Nat.zero_mul, Nat.zero_add]; exact List.getElem?_eq_getElem hj⟩
          | succ i => simp at hi) (by rw [← Array.length_toList]; omega) (Nat.le_refl _) (by decide)
        refine ⟨_, g', hq, h1.put d ?_⟩
        obtain ⟨e0, dd, ys, q1, q2, q3⟩ := h2
        have hx : xs.length = 1 := hs.len
        have hrow := q1
        rw [show ((st.consume rs).add (.row t (!hasRd cls) xs)).rt[st.rt.length]? = some (.row t (!hasRd cls) xs) from by
          show ((st.consume rs).rt ++ [_])[_]? = _
          rw [List.getElem?_append_right (by rw [consume_len]; exact Nat.le_refl _), consume_len]; simp] at hrow
        cases hrow
        exact ⟨_, _, _, _, _, _, _, q1, q2, q3, by show 0 < (getP xs []).length; simp [getP, hx], by simp⟩
      · cases hq
    · cases hq
  · cases hq
theorem allocK_sound (hT : TabOk P X.T) (h : Rel X own0 w0 st a w g) {o : Oper} {t : TypeId} (ho : o.op = .alloc t) {ar : Bool} {K : St → Option R} {r : R} (hq : allocK X.T ar st t o.dst K = some r) : ∃ st', K st' = some r ∧ OpTo P X own0 w0 o a w st' := by
  unfold allocK at hq
  split at hq
  · rename_i ht
    have hz : ClsR X w st.rt g ((X.T.ct t).map zeroCl) (X.T.row t).zero.cells.toList := by rw [TRow.zero_cells' hT]; exact zero_cells X _
    split at hq
    · obtain ⟨st', g', h1, h2⟩ := rowBoxK_sound h hz hq
      refine ⟨st', h1, OpTo.value (v := .pointer (some ⟨w.heap.size, 0, none⟩)) (w' := w.alloc (.cells (X.T.row t).zero.cells t)) ?_ h2⟩
      simp [execOp, ho, Instr.alloc, run_zeroValue hT ht, newVar, newRow]
    · refine ⟨_, hq, ?_⟩
      obtain ⟨g', h1, h2⟩ := h.newBox t (cs := (X.T.ct t).map zeroCl) (vs := (X.T.row t).zero.cells) hz
      refine OpTo.value (v := .pointer (some ⟨w.heap.size, 0, none⟩)) (w' := w.alloc (.cells (X.T.row t).zero.cells t)) ?_ (h1.put o.dst h2)
      simp [execOp, ho, Instr.alloc, run_zeroValue hT ht, newVar, newRow]
  · cases hq
theorem boxK_sound (hT : TabOk P X.T) (h : Rel X own0 w0 st a w g) {o : Oper} {t : TypeId} {x : Operand} (ho : o.op = .box t x) {ar : Bool} {K : St → Option R} {r : R} (hq : boxK X.T ar st t (ev st x) o.dst K = some r) : ∃ st', K st' = some r ∧ OpTo P X own0 w0 o a w st' := by
  unfold boxK at hq
  split at hq
  · rename_i cs hc
    split at hq
    · obtain ⟨st', g', h1, h2⟩ := rowBoxK_sound h (clsOf_sound h (ev_sound h x) hc) hq
      refine ⟨st', h1, OpTo.value (v := .pointer (some ⟨w.heap.size, 0, none⟩)) (w' := w.alloc (.cells (a.eval x).cells t)) ?_ h2⟩
      simp [execOp, ho, Instr.box, newVar, newRow]
    · refine ⟨_, hq, ?_⟩
      obtain ⟨g', h1, h2⟩ := h.newBox t (clsOf_sound h (ev_sound h x) hc)
      refine OpTo.value (v := .pointer (some ⟨w.heap.size, 0, none⟩)) (w' := w.alloc (.cells (a.eval x).cells t)) ?_ (h1.put o.dst h2)
      simp [execOp, ho, Instr.box, newVar, newRow]
  · cases hq
/-- Blocks of roots that are gone are to be read only. -/
def Gh.unown (g : Gh) (qs : List Nat) : Gh := ⟨fun x => match g.own x with | some r => if r ∈ qs then none else some r | none => none, g.v, g.b⟩
theorem Gh.unown_none {qs : List Nat} {x : Nat} (h : g.own x = none) : (g.unown qs).own x = none := by
  show (match g.own x with | some r => if r ∈ qs then none else some r | none => none) = _
  rw [h]
theorem Gh.unown_in {qs : List Nat} {x r : Nat} (h : g.own x = some r) (hr : r ∈ qs) : (g.unown qs).own x = none := by
  show (match g.own x with | some r => if r ∈ qs then none else some r | none => none) = _
  rw [h]; simp [hr]
theorem Gh.unown_out {qs : List Nat} {x r : Nat} (h : g.own x = some r) (hr : r ∉ qs) : (g.unown qs).own x = some r := by
  show (match g.own x with | some r => if r ∈ qs then none else some r | none => none) = _
  rw [h]; simp [hr]
theorem Gh.unown_some {qs : List Nat} {x r : Nat} (h : (g.unown qs).own x = some r) : g.own x = some r := by
  cases hx : g.own x with
  | none => rw [Gh.unown_none hx] at h; cases h
  | some s =>
    by_cases hs : s ∈ qs
    · rw [Gh.unown_in hx hs] at h; cases h
    · rw [Gh.unown_out hx hs] at h; exact h
theorem Rel.unown (h : Rel X own0 w0 st a w g) {qs : List Nat} (hgone : ∀ r ∈ qs, st.rt[r]? = some .gone) : Rel X own0 w0 st a w (g.unown qs) := by
  have hK : Keep X (fun s => s ∈ qs) (fun _ => False) w g st.rt w (g.unown qs) st.rt :=
    ⟨fun b hb => ⟨⟨Gh.unown_none hb.1, hb.2⟩, rfl⟩, fun b r hr hb => ⟨Gh.unown_out hb hr, rfl⟩, fun _ _ _ => rfl, fun r e d xs _ hx => hx, fun r t cs hx => ⟨rfl, cs, hx⟩, fun _ hf => hf.elim⟩
  have hcl : ∀ x : Cl, x.avd (fun s => s ∈ qs) (fun _ => False) st.rt := fun x => by
    cases x with
    | al r p e =>
      rintro ⟨e', d, xs, hr⟩
      exact .inl fun hq => by rw [hgone r hq] at hr; cases hr
    | _ => trivial
  have hsv : ∀ x : SV, x.avd (fun s => s ∈ qs) (fun _ => False) st.rt := fun x => by
    cases x with
    | c x => exact hcl x
    | ag xs => exact fun x _ => hcl x
    | po r p e i o =>
      rintro ⟨e', d, xs, hr⟩
      exact .inl fun hq => by rw [hgone r hq] at hr; cases hr
    | fn f caps =>
      intro y _
      cases y with
      | c x => exact hcl x
      | _ => trivial
    | tup vs => exact fun y _ z _ => hcl z
    | _ => trivial
  refine ⟨⟨fun i y hy => ?_, fun b hb => h.mem.lt b fun hn => hb (Gh.unown_none hn), fun b s hb => h.mem.ob b s (Gh.unown_some hb), h.mem.n0, h.mem.np, h.mem.nl, fun b s hb => h.mem.pm b s (Gh.unown_some hb), h.mem.pv⟩, h.sz, fun i sv hi => SVR.keep h.mem hK (hsv sv) (h.sl i sv hi), h.df, ⟨h.fr.os, h.fr.tape, h.fr.output, h.fr.size, fun b hb ho => ?_⟩⟩
  · by_cases hq : i ∈ qs
    · rw [hgone i hq] at hy
      obtain rfl := Option.some.inj hy
      trivial
    · refine RootR.keep h.mem hK hy hq ?_
      cases y with
      | box t cs => exact fun x _ => hcl x
      | _ => trivial
  · obtain ⟨e1, e2⟩ := h.fr.block b hb ho
    exact ⟨Gh.unown_none e1, e2⟩
theorem ClR.unAl (hm : Mem X st w g) {qs : List Nat} (hnp : ∀ r ∈ qs, st.np ≤ r) {rt' : List Root} {x : Cl} {v : Value} (hr : ∀ r ∈ x.rts, r ∈ qs) (h : ClR X w st.rt g x v) : ClR X w rt' (g.unown qs) (unAl st.rt x) v := by
  have hok2 : ∀ b, okb X w g b → okb X w (g.unown qs) b := fun b hb => ⟨Gh.unown_none hb.1, hb.2⟩
  cases x with
  | al r p e =>
    have hq := hr r (by simp [Cl.rts])
    obtain ⟨e0, d, xs, h1, h2⟩ := ClR.al_repr hm h
    simp only [Eng.unAl, h1]
    refine h2 _ (fun b hb => ⟨Gh.unown_in hb hq, hm.lt b (by rw [hb]; simp), ?_⟩) hok2
    rcases hm.pm b r hb with hh | ⟨hh, _⟩
    · exact .inr hh
    · have := hnp r hq; rw [hm.np] at this; omega
  | rd e xs => exact RepR.imp h fun b hb => ⟨hok2 b hb, rfl⟩
  | _ => exact h
theorem dedup_in : ∀ (xs acc : List Nat) (r : Nat), r ∈ acc ∨ r ∈ xs → r ∈ dedup acc xs
  | [], acc, r, h => by unfold dedup; simpa using h
  | x :: xs, acc, r, h => by
    unfold dedup
    split
    · rename_i hx
      have hx : x ∈ acc := by simpa using hx
      refine dedup_in xs acc r ?_
      rcases h with h | h
      · exact .inl h
      · rcases List.mem_cons.1 h with rfl | h
        · exact .inl hx
        · exact .inr h
    · refine dedup_in xs _ r ?_
      rcases h with h | h
      · exact .inl (by simp [h])
      · rcases List.mem_cons.1 h with rfl | h
        · exact .inl (by simp)
        · exact .inr h
theorem chunk_map {size len : Nat} {cls : List Cl} (f : Cl → Cl) : (chunk size cls len).map (fun x => x.map f) = chunk size (cls.map f) len := by
  simp [chunk, List.map_drop, List.map_take]
theorem chunk_mem {size len : Nat} {cls : List Cl} (hl : cls.length = len * size) {c : Cl} (hc : c ∈ cls) : ∃ x ∈ chunk size cls len, c ∈ x := by
  obtain ⟨i, hi⟩ := List.mem_iff_getElem?.1 hc
  have hlt := lt_of_some hi
  have hs : 0 < size := by
    cases size with
    | zero => rw [hl] at hlt; simp at hlt
    | succ n => omega
  have h1 : i / size < len := by
    rw [Nat.div_lt_iff_lt_mul hs]; omega
  refine ⟨(cls.drop (i / size * size)).take size, List.mem_map.2 ⟨i / size, List.mem_range.2 h1, rfl⟩, List.mem_iff_getElem?.2 ⟨i % size, ?_⟩⟩
  rw [List.getElem?_take, if_pos (Nat.mod_lt _ hs), List.getElem?_drop, Nat.mul_comm, Nat.div_add_mod]
  exact hi
theorem newRowK_sound (h : Rel X own0 w0 st a w g) {e : TypeId} {len : Nat} {cls : List Cl} {cs : Array Value} (hc : ClsR X w st.rt g cls cs.toList) (hl : cls.length = len * X.T.size e) (hmax : len ≤ maxLen) {d : Option Tmp} {K : St → Option R} {r : R}
    (hq : newRowK X.T st e (chunk (X.T.size e) cls len) d K = some r) :
    ∃ st' g', K st' = some r ∧ Rel X own0 w0 st' (a.put d (.slice (some ⟨w.heap.size, 0, none⟩) len len)) (w.alloc (.cells cs e)) g' := by
  unfold newRowK at hq
  dsimp only at hq
  split at hq
  · exact newRow1_sound h hc hl hmax hq
  · split at hq
    · rename_i hh
      rw [Bool.and_eq_true] at hh
      obtain ⟨hn, hall⟩ := hh
      have hall : ∀ r ∈ dedup [] ((chunk (X.T.size e) cls len).flatMap fun x => x.flatMap Cl.rts), st.np ≤ r ∧ IsRow st.rt r := fun r hr => by
        have := List.all_eq_true.1 hall r hr
        simp only [Bool.and_eq_true, decide_eq_true_eq] at this
        refine ⟨this.1, ?_⟩
        have h2 := this.2
        unfold isRowB at h2
        split at h2
        · rename_i e' d' xs' hx; exact ⟨e', d', xs', hx⟩
        · cases h2
      have hin : ∀ c ∈ cls, ∀ r ∈ c.rts, r ∈ dedup [] ((chunk (X.T.size e) cls len).flatMap fun x => x.flatMap Cl.rts) := fun c hc' r hr => by
        obtain ⟨x, h1, h2⟩ := chunk_mem hl hc'
        exact dedup_in _ _ _ (.inr (List.mem_flatMap.2 ⟨x, h1, List.mem_flatMap.2 ⟨c, h2, hr⟩⟩))
      generalize dedup [] ((chunk (X.T.size e) cls len).flatMap fun x => x.flatMap Cl.rts) = qs at *
      have hrows : ∀ r ∈ qs, IsRow st.rt r := fun r hr => (hall r hr).2
      have h1 := (h.consume qs hrows hn).unown (qs := qs) fun r hr => consume_gone qs hrows hn hr
      rw [chunk_map] at hq
      refine newRow1_sound h1 (cls := cls.map (unAl st.rt)) ?_ (by rw [List.length_map]; exact hl) hmax hq
      have hmem := h.mem
      have key : ∀ {cls : List Cl} {vs : List Value}, ClsR X w st.rt g cls vs → (∀ c ∈ cls, ∀ r ∈ c.rts, r ∈ qs) → ClsR X w (st.consume qs).rt (g.unown qs) (cls.map (unAl st.rt)) vs := by
        intro cls
        induction cls with
        | nil => intro vs h _; cases vs with | nil => trivial | cons => exact h.elim
        | cons c cls ih =>
          intro vs h hr
          cases vs with
          | nil => exact h.elim
          | cons v vs => exact ⟨ClR.unAl hmem (fun r hr => (hall r hr).1) (hr c (by simp)) h.1, ih h.2 fun c hc => hr c (by simp [hc])⟩
      exact key hc hin
    · cases hq
theorem buildSliceK_sound (hT : TabOk P X.T) (h : Rel X own0 w0 st a w g) {o : Oper} {t : TypeId} {len : Nat} {parts : Array (Nat × Operand)} (ho : o.op = .buildSlice t len parts) {K : St → Option R} {r : R} (hq : buildSliceK X.T st t len parts.toList o.dst K = some r) :
    ∃ st', K st' = some r ∧ OpTo P X own0 w0 o a w st' := by
  unfold buildSliceK at hq
  split at hq
  · rename_i e hd
    have hd' : (X.T.row t).d = .one (.slc e) := by
      unfold Tabs.elem TD.elem at hd
      split at hd
      · rename_i e' he; rw [he]; cases hd; rfl
      · cases hd
    split at hq
    · rename_i hh
      obtain ⟨hk, hsz, hs0⟩ := hh
      split at hq
      · rename_i cs hb
        obtain ⟨vs', h1, h2, h3⟩ := fill_sound h _ _ (zeroCells_sound (P := P) (st := st) (w := w) (g := g) hT hs0 (len * X.T.size e)) hb
        have hl : cs.length = len * X.T.size e := by rw [h3]; simp [zeroCells]
        have hmax : len ≤ maxLen := by
          have : len ≤ len * X.T.size e := Nat.le_mul_of_pos_right _ (Nat.pos_of_ne_zero hs0)
          simp only [maxLen]; omega
        obtain ⟨st', g', h4, h5⟩ := newRowK_sound h h2 hl hmax hq
        refine ⟨st', h4, OpTo.value (w' := w.alloc (.cells vs' e)) (v := .slice (some ⟨w.heap.size, 0, none⟩) len len) ?_ h5⟩
        have hn : ¬ (len * X.T.size e > 2 ^ 24) := by omega
        by_cases hl0 : len * X.T.size e = 0
        · have e0 : (Array.range (len * X.T.size e)).map ((X.T.row e).zero.cells[· % (X.T.row e).zero.cells.size]!) = #[] := by rw [hl0]; simp
          rw [e0] at h1
          have h1' : Instr.fill (fun i => some (i * X.T.size e, X.T.size e)) #[] (parts.map fun (x : Nat × Operand) => (x.1, a.eval x.2)).toList = some vs' := by rw [Array.toList_map]; exact h1
          simp [execOp, ho, Instr.buildSlice, run_underlying (und_slc hT hd'), run_sizeOf hT hk, hl0, newRow, -Array.toList_map]
          rw [show (Array.map (fun x => (default : Value)) (Array.range 0)) = #[] from by simp, h1']
          simp
        · have h1' : Instr.fill (fun i => some (i * X.T.size e, X.T.size e)) ((Array.range (len * X.T.size e)).map ((X.T.row e).zero.cells[· % (X.T.row e).zero.cells.size]!)) (parts.map fun (x : Nat × Operand) => (x.1, a.eval x.2)).toList = some vs' := by rw [Array.toList_map]; exact h1
          have hn' : ¬ 16777216 < len * X.T.size e := by omega
          simp only [execOp, ho, Instr.buildSlice, Sem.run_bind, run_underlying (und_slc hT hd'), run_sizeOf hT hk, Result.andThen_ok, hl0, if_false, hn, run_zeroValue hT hk, Sem.run_pure, h1', newRow]
          simp
      · cases hq
    · cases hq
  · cases hq
theorem elemsU_zero {rt : List Root} {np : Nat} (cts : List CT) : ∀ n, elemsU rt np true cts (List.replicate n (cts.map zeroCl)) = some (List.replicate n (cts.map zeroU), [])
  | 0 => rfl
  | n + 1 => by
    have h1 : ∀ cts : List CT, elemU rt np true cts (cts.map zeroCl) = some (cts.map zeroU, []) := by
      intro cts
      induction cts with
      | nil => rfl
      | cons c cts ih => cases c <;> simp [elemU, zeroCl, zeroU, ih]
    rw [List.replicate_succ]
    unfold elemsU
    rw [h1, elemsU_zero cts n]
    rfl
theorem run_makeSlice_any (hT : TabOk P X.T) {t e : TypeId} (hd : (X.T.row t).d = .one (.slc e)) (hk : (X.T.row e).d.known = true) {n m : Int} (h0 : 0 ≤ n) (hnm : n ≤ m) (hr : room m.toNat (X.T.row e).bytes = true) :
    (Instr.makeSlice t (.int .i64 n) (.int .i64 m)).run P w = .ok (.slice (some ⟨w.heap.size, 0, none⟩) n.toNat m.toNat) (w.alloc (.cells (madeCells (X.T.row e).zero.cells (m.toNat * X.T.size e)) e)) := by
  obtain ⟨i, desc, h1, h2, h3, h4, h5, h6⟩ := hT.ok e hk
  have hr := of_decide_eq_true hr
  have := run_make (P := P) w t e i (X.T.row e).zero (und_slc hT hd) h1 h5 .i64 .i64 n m h0 hnm (by
    rw [h4]
    have h7 : m.toNat * (X.T.row e).bytes ≤ 140737488355328 := hr.1
    have h8 : (((X.T.row e).bytes * m.toNat : Nat) : Int) ≤ 281474976710656 := by rw [Nat.mul_comm]; omega
    rw [Int.natCast_mul, Int.toNat_of_nonneg (by omega)] at h8
    exact h8) (by omega)
  rw [this, h3]
theorem Lies.made {e : TypeId} (hT : TabOk P X.T) (hs0 : X.T.size e ≠ 0) {n : Nat} {cs : List Value} (hcs : cs = (madeCells (X.T.row e).zero.cells (n * X.T.size e)).toList) : Lies (X.T.size e) (List.replicate n ((X.T.ct e).map zeroV)) cs := by
  refine ⟨fun i j vs hi hj => ?_⟩
  obtain ⟨h1, h2⟩ := List.getElem?_eq_some_iff.1 hi
  simp only [List.length_replicate] at h1
  simp only [List.getElem_replicate] at h2
  subst h2
  have h3 := mul_lt_of h1 hj
  have hj' : j < (X.T.ct e).length := hj
  refine ⟨zeroV (X.T.ct e)[j], by rw [List.getElem?_map, List.getElem?_eq_getElem hj']; rfl, ?_⟩
  rw [hcs]
  simp only [madeCells, Array.toList_map, Array.toList_range, List.getElem?_map, List.getElem?_range h3, Option.map_some, TRow.zero_cells' hT, Option.some.injEq]
  have h4 : (i * X.T.size e + j) % (X.T.ct e).length = j := by
    rw [show X.T.size e = (X.T.ct e).length from rfl, Nat.mul_comm, Nat.mul_add_mod, Nat.mod_eq_of_lt hj']
  simp [h4, hj']
theorem makeSliceK_sound (hT : TabOk P X.T) (h : Rel X own0 w0 st a w g) {o : Oper} {t : TypeId} {l c : Operand} (ho : o.op = .makeSlice t l c) {K : St → Option R} {r : R} (hq : makeSliceK X.T st t l c o.dst K = some r) :
    ∃ st', K st' = some r ∧ OpTo P X own0 w0 o a w st' := by
  unfold makeSliceK at hq
  split at hq
  · rename_i e n m hd hl hc
    have hd' : (X.T.row t).d = .one (.slc e) := by
      unfold Tabs.elem TD.elem at hd
      split at hd
      · rename_i e' he; rw [he]; cases hd; rfl
      · cases hd
    have hvl := ev_sound h l
    have hvc := ev_sound h c
    rw [hl] at hvl
    rw [hc] at hvc
    have hvl : a.eval l = .int .i64 n := hvl
    have hvc : a.eval c = .int .i64 m := hvc
    split at hq
    · rename_i hh
      obtain ⟨hk, hs0⟩ := hh
      have fin : ∀ {n : Int} {els : List (List Cl)} {xs : List (List U)}, 0 ≤ n → n ≤ m → a.eval l = .int .i64 n → room m.toNat (X.T.row e).bytes = true → els.length = n.toNat → els = List.replicate n.toNat ((X.T.ct e).map zeroCl) → xs = List.replicate n.toNat ((X.T.ct e).map zeroU) →
          K ((st.add (.row e true xs)).put o.dst (.c (.al st.rt.length [] e))) = some r → ∃ st', K st' = some r ∧ OpTo P X own0 w0 o a w st' := by
        intro n els xs h0 hnm hvl hr hel he hx hq
        subst he hx
        have hs := elemsU_spec h.mem (vss := List.replicate n.toNat ((X.T.ct e).map zeroV)) (elemsU_zero (rt := st.rt) (np := st.np) (X.T.ct e) n.toNat) (by simp) fun i c v hi hv => by
          obtain ⟨h1, h2⟩ := List.getElem?_eq_some_iff.1 hi
          obtain ⟨h3, h4⟩ := List.getElem?_eq_some_iff.1 hv
          simp only [List.getElem_replicate] at h2 h4
          subst h2 h4
          exact zero_cells X _
        have hsz : (madeCells (X.T.row e).zero.cells (m.toNat * X.T.size e)).size = m.toNat * X.T.size e := size_madeCells _ _
        have hnm' : n.toNat ≤ m.toNat := by omega
        have htk : (madeCells (X.T.row e).zero.cells (m.toNat * X.T.size e)).toList.take (n.toNat * X.T.size e) = (madeCells (X.T.row e).zero.cells (n.toNat * X.T.size e)).toList := by
          have h9 := Nat.mul_le_mul_right (X.T.size e) hnm'
          simp only [madeCells, Array.toList_map, Array.toList_range, ← List.map_take, List.take_range]
          rw [Nat.min_eq_left h9]
        obtain ⟨g', h1, h2⟩ := h.newRow hs rfl (by simp) (cs := madeCells (X.T.row e).zero.cells (m.toNat * X.T.size e)) (cap := m.toNat) (by rw [List.length_replicate, htk]; exact Lies.made hT hs0 rfl) hsz (by rw [List.length_replicate]; exact hnm') (of_decide_eq_true hr).2
        rw [List.length_replicate] at h2
        refine ⟨_, hq, OpTo.value (w' := w.alloc (.cells (madeCells (X.T.row e).zero.cells (m.toNat * X.T.size e)) e)) (v := .slice (some ⟨w.heap.size, 0, none⟩) n.toNat m.toNat) ?_ (h1.put o.dst h2)⟩
        simp [execOp, ho, hvl, hvc, run_makeSlice_any hT hd' hk h0 hnm hr]
      split at hq
      · split at hq
        · rename_i t1 t2 hab
          subst hab
          cases hz : (decide (0 ≤ m) && room m.toNat (X.T.row e).bytes) with
          | false => rw [hz] at hq; cases hq
          | true =>
            rw [hz] at hq
            simp only [Bool.and_eq_true, decide_eq_true_eq] at hz
            obtain rfl : n = m := by rw [hvl] at hvc; injection hvc
            exact fin hz.1 (Int.le_refl _) hvl hz.2 (by simp) rfl rfl hq
        · cases hq
      · split at hq
        · rename_i hn0
          subst hn0
          cases hz : (decide (0 ≤ m) && room m.toNat (X.T.row e).bytes) with
          | false => rw [hz] at hq; cases hq
          | true =>
            rw [hz] at hq
            simp only [Bool.and_eq_true, decide_eq_true_eq] at hz
            exact fin (Int.le_refl _) hz.1 hvl hz.2 (els := []) (xs := []) rfl rfl rfl hq
        · cases hq
      · split at hq
        · rename_i hnm
          subst hnm
          cases hz : (decide (0 ≤ n) && room n.toNat (X.T.row e).bytes) with
          | false => rw [hz] at hq; cases hq
          | true =>
            rw [hz] at hq
            simp only [Bool.and_eq_true, decide_eq_true_eq] at hz
            exact fin hz.1 (Int.le_refl _) hvl hz.2 (by simp) rfl rfl hq
        · cases hq
      · cases hq
    · cases hq
  · cases hq
end
end Go.Proofs.Ytlkcpabdpmenpaa.Eng
/- The evaluator, part 14: stores. Of no program. -/
namespace Go.Proofs.Ytlkcpabdpmenpaa.Eng
open Go.RowKit
set_option linter.unusedVariables false

/-! ### Into the middle of data -/
theorem setP_cons (xs : List (List U)) (i o : Nat) (p : Path) (ys : List (List U)) : setP xs ((i, o) :: p) ys = xs.set i ((xs.getD i []).set o (.lst (setP (((xs.getD i []).getD o U0).toLst) p ys))) := rfl
theorem set_get_same {α : Type} {l : List α} {i : Nat} {x y : α} (h : (l.set i x)[i]? = some y) : y = x := by
  rw [List.getElem?_set] at h
  simp only [if_true] at h
  split at h
  · exact (Option.some.inj h).symm
  · cases h
theorem RepO.focus' {T : Tab} {w : World} {ct ct' : CT} {u u' : U} {v v' : Value} {p : Path} (h : At T w ct u v p ct' u' v') : ∀ {F : Nat → Prop}, RepO T w F ct u v → ∃ Fp : Nat → Prop, (∀ b, Fp b → F b) ∧ RepO T w Fp ct' u' v' ∧
    ∀ (w' : World) (N : Nat → Prop) (ys : List (List U)), (∀ e, ct' = .slc e → RepO T w' N ct' (.lst ys) v') → (∃ e, ct' = .slc e) → (∀ b, F b → ¬ Fp b → w'.heap[b]? = w.heap[b]?) → (∀ b, N b → Fp b ∨ ¬ F b) →
      RepO T w' (fun b => (F b ∧ ¬ Fp b) ∨ N b) ct (if p = [] then .lst ys else .lst (setP u.toLst p ys)) v := by
  induction h with
  | nil ct u v =>
    intro F hF
    refine ⟨F, fun _ h => h, hF, fun w' N ys hr he _ _ => ?_⟩
    obtain ⟨e, rfl⟩ := he
    rw [if_pos rfl]
    exact (hr e rfl).mono fun b hb => .inr hb
  | cons e xs g q n c i o x u1 ct1 v1 p ct' u' v' hx hu hct hc h ih =>
    intro F hF
    cases hF with
    | row F e xs v cs V lab ho hg hV hs hh =>
      have hlt : o < x.length := lt_of_some hu
      have hcell := ownsAt_cell ho (hV i o x hx hlt)
      obtain rfl := Option.some.inj (hcell.symm.trans hc)
      obtain ⟨Fp, h1, h2, h3⟩ := ih (hh i o x u1 ct1 hx hu hct)
      refine ⟨Fp, fun b hb => (h1 b hb).1, h2, fun w' N ys hr he hw hN => ?_⟩
      obtain ⟨g1, g2⟩ := hg g rfl
      have hgp : ¬ Fp g := fun hb => by have := (h1 g hb).2; rw [g2] at this; cases this
      have hN' : ∀ b, N b → Fp b ∨ ¬ (F b ∧ lab b = some (i, o)) := fun b hb => (hN b hb).imp id fun hnf hf => hnf hf.1
      have h4 := h3 w' N ys hr he (fun b hb hp => hw b hb.1 hp) hN'
      rw [if_neg (by simp)]
      have hgx : xs.getD i [] = x := getD_of_some hx
      have hgu : x.getD o U0 = u1 := getD_of_some hu
      have e1 : (.lst (setP (U.lst xs).toLst ((i, o) :: p) ys) : U) = .lst (xs.set i (x.set o (if p = [] then .lst ys else .lst (setP u1.toLst p ys)))) := by
        rw [U.toLst_lst, setP_cons, hgx, hgu]
        split
        · rename_i hp; subst hp; rfl
        · rfl
      rw [e1]
      generalize (if p = [] then (.lst ys : U) else .lst (setP u1.toLst p ys)) = z at h4
      classical
      have ho' : ownsAt w' e (T e).length (Value.slice (some { block := g, off := q }) n c) xs.length cs := by
        refine ownsAt_heap ho fun g' hg' => ?_
        simp only [Value.ownBlock, Option.some.injEq] at hg'
        subst hg'
        exact hw g g1 hgp
      refine .row _ e _ _ cs V (fun b => if N b then some (i, o) else lab b) (by rw [List.length_set]; exact ho') (fun g' hg' => ?_) (fun i' j' y hy hj => ?_) (fun i' y hy => ?_) (fun i' j' y u2 ct2 hy hu2 hct2 => ?_)
      · simp only [Value.ownBlock, Option.some.injEq] at hg'
        subst hg'
        refine ⟨.inl ⟨g1, hgp⟩, ?_⟩
        rw [if_neg]
        · exact g2
        · intro hn
          exact (hN g hn).elim hgp fun hnf => hnf g1
      · rw [List.getElem?_set] at hy
        split at hy
        · rename_i hii; subst hii
          split at hy
          · obtain rfl := Option.some.inj hy
            rw [List.length_set] at hj
            exact hV i j' x hx hj
          · cases hy
        · exact hV i' j' y hy hj
      · rw [List.getElem?_set] at hy
        split at hy
        · rename_i hii; subst hii
          split at hy
          · obtain rfl := Option.some.inj hy
            rw [List.length_set]; exact hs i x hx
          · cases hy
        · exact hs i' y hy
      · -- each cell
        have other : ∀ (y : List U) (u2 : U), xs[i']? = some y → y[j']? = some u2 → (i', j') ≠ (i, o) → RepO T w' (fun b => ((F b ∧ ¬ Fp b) ∨ N b) ∧ (if N b then some (i, o) else lab b) = some (i', j')) ct2 u2 (V i' j') := by
          intro y u2 hy hu2 hne
          refine (hh i' j' y u2 ct2 hy hu2 hct2).imp fun b hb => ?_
          have hnp : ¬ Fp b := fun hp => by have := (h1 b hp).2; rw [hb.2] at this; exact hne (Option.some.inj this)
          have hnn : ¬ N b := fun hn => (hN b hn).elim hnp fun hnf => hnf hb.1
          exact ⟨⟨.inl ⟨hb.1, hnp⟩, by rw [if_neg hnn]; exact hb.2⟩, hw b hb.1 hnp⟩
        rw [List.getElem?_set] at hy
        split at hy
        · rename_i hii; subst hii
          split at hy
          · obtain rfl := Option.some.inj hy
            rw [List.getElem?_set] at hu2
            split at hu2
            · rename_i hjj; subst hjj
              obtain rfl := Option.some.inj hu2
              obtain rfl := Option.some.inj (hct.symm.trans hct2)
              refine h4.mono fun b hb => ?_
              by_cases hn : N b
              · exact ⟨.inr hn, by rw [if_pos hn]⟩
              · rcases hb with hb | hb
                · exact ⟨.inl ⟨hb.1.1, hb.2⟩, by rw [if_neg hn]; exact hb.1.2⟩
                · exact absurd hb hn
            · rename_i hjj
              exact other x u2 hx hu2 fun hh' => hjj (Prod.mk.inj hh').2.symm
          · cases hy
        · rename_i hii
          exact other y u2 hy hu2 fun hh' => hii (Prod.mk.inj hh').1.symm

theorem RepO.focus {T : Tab} {w : World} {ct ct' : CT} {u u' : U} {v v' : Value} {p : Path} (h : At T w ct u v p ct' u' v') {F : Nat → Prop} (hF : RepO T w F ct u v) : ∃ Fp : Nat → Prop, (∀ b, Fp b → F b) ∧ RepO T w Fp ct' u' v' ∧
    ∀ (w' : World) (N : Nat → Prop) (ys : List (List U)), (∀ e, ct' = .slc e → RepO T w' N ct' (.lst ys) v') → (∃ e, ct' = .slc e) → (∀ b, F b → ¬ Fp b → w'.heap[b]? = w.heap[b]?) → (∀ b, N b → Fp b ∨ ¬ F b) →
      RepO T w' (fun b => F b ∨ N b) ct (if p = [] then .lst ys else .lst (setP u.toLst p ys)) v := by
  obtain ⟨Fp, h1, h2, h3⟩ := RepO.focus' h hF
  exact ⟨Fp, h1, h2, fun w' N ys a b c d => (h3 w' N ys a b c d).mono fun b hb => hb.imp And.left id⟩

/-! ### Stores -/
theorem splice_length : ∀ (us row : List U) (o : Nat), (splice row o us).length = row.length
  | [], row, o => rfl
  | u :: us, row, o => by unfold splice; rw [splice_length us]; exact List.length_set
theorem splice_get : ∀ (us row : List U) (o i : Nat), o + us.length ≤ row.length → (splice row o us)[i]? = if o ≤ i ∧ i < o + us.length then us[i - o]? else row[i]?
  | [], row, o, i, h => by unfold splice; rw [if_neg (by simp only [List.length_nil]; omega)]
  | u :: us, row, o, i, h => by
    unfold splice
    rw [splice_get us (row.set o u) (o + 1) i (by simp at h ⊢; omega)]
    simp only [List.length_cons] at h ⊢
    by_cases h1 : i = o
    · subst h1
      rw [if_neg (by omega), if_pos (by omega), List.getElem?_set_self (by omega), Nat.sub_self]
      rfl
    · by_cases h2 : o + 1 ≤ i ∧ i < o + 1 + us.length
      · rw [if_pos h2, if_pos (by omega)]
        obtain ⟨k, rfl⟩ : ∃ k, i = o + 1 + k := ⟨i - (o + 1), by omega⟩
        rw [show o + 1 + k - (o + 1) = k from by omega, show o + 1 + k - o = k + 1 from by omega]; rfl
      · rw [if_neg h2, if_neg (by omega), List.getElem?_set_ne (by omega)]
/-- What a store leaves in a row. -/
def stored (cur : Array Value) (o : Nat) (vs : List Value) : Array Value := (cur.toList.take o ++ vs ++ cur.toList.drop (o + vs.length)).toArray
theorem stored_get {cur : Array Value} {o : Nat} {vs : List Value} (h : o + vs.length ≤ cur.size) (i : Nat) : (stored cur o vs).toList[i]? = if o ≤ i ∧ i < o + vs.length then vs[i - o]? else cur.toList[i]? := by
  have hl : (cur.toList.take o).length = o := by rw [List.length_take, Array.length_toList]; omega
  show (cur.toList.take o ++ vs ++ cur.toList.drop (o + vs.length))[i]? = _
  by_cases h1 : i < o
  · rw [if_neg (by omega), List.append_assoc, List.getElem?_append_left (by omega), List.getElem?_take, if_pos h1]
  · by_cases h2 : i < o + vs.length
    · rw [if_pos ⟨by omega, h2⟩, List.append_assoc, List.getElem?_append_right (by omega), List.getElem?_append_left (by omega), hl]
    · rw [if_neg (by omega), List.getElem?_append_right (by rw [List.length_append]; omega), List.length_append, hl, List.getElem?_drop]
      congr 1; omega
theorem stored_size {cur : Array Value} {o : Nat} {vs : List Value} (h : o + vs.length ≤ cur.size) : (stored cur o vs).size = cur.size := by
  show (cur.toList.take o ++ vs ++ cur.toList.drop (o + vs.length)).length = _
  rw [List.length_append, List.length_append, List.length_take, List.length_drop, Array.length_toList]; omega
theorem stored_splice {cur : Array Value} {o : Nat} {vs : List Value} (h : o + vs.length ≤ cur.size) : (stored cur o vs).toList = spliceV cur.toList o vs := by
  apply List.ext_getElem?
  intro i
  rw [stored_get h, spliceV_get _ _ _ _ (by rw [Array.length_toList]; exact h)]

section
variable {P : Program} {X : Ctx} {own0 : Nat → Option Nat} {w0 : World} {st : St} {a : Act} {w w' : World} {g g' : Gh} {R : Type}
theorem run_storeAt (hT : TabOk P X.T) {t : TypeId} (ht : (X.T.row t).d.known = true) {b o : Nat} {v : Value} {cur : Array Value} {e : TypeId} (hs : v.cells.size = X.T.size t) (hg : w.heap[b]? = some (.cells cur e (0, 0))) (hl : o + v.cells.toList.length ≤ cur.size) (h1 : ∀ u ∈ v.cells.toList, u.oneCell' = true) :
    (Instr.storeAt t (.pointer (some ⟨b, o, none⟩)) v).run P w = .ok () (w.setRow b (stored cur o v.cells.toList)) := by
  have := run_storeCells_at P b o e v.cells.toList 0 cur w hg (by omega) h1
  simp only [Nat.add_zero] at this
  simp [Instr.storeAt, Instr.sureAddr, storeVar, run_sizeOf hT ht, hs, this, stored]
theorem ClsR.ones (hm : Mem X st w g) : ∀ {xs : List Cl} {vs : List Value}, ClsR X w st.rt g xs vs → ∀ u ∈ vs, u.oneCell' = true
  | [], [], _, u, hu => by simp at hu
  | x :: xs, v :: vs, h, u, hu => by
    rcases List.mem_cons.1 hu with rfl | hu
    · exact h.1.one hm
    · exact ClsR.ones hm h.2 u hu
  | [], _ :: _, h, _, _ => h.elim
  | _ :: _, [], h, _, _ => h.elim
/-- A variable is written. -/
theorem Rel.setBox (h : Rel X own0 w0 st a w g) {r : Nat} {t : TypeId} {cs cs' : List Cl} (hr : st.rt[r]? = some (.box t cs)) {vs' : Array Value} (hc : ClsR X w st.rt g cs' vs'.toList) : Rel X own0 w0 (st.setR r (.box t cs')) a (w.setRow (g.b r) vs') g := by
  obtain ⟨vs, h1, h2, h3⟩ := h.mem.rt r _ hr
  have hlt := lt_of_some hr
  have oth : ∀ b, b ≠ g.b r → (w.setRow (g.b r) vs').heap[b]? = w.heap[b]? := fun b hb => setRow_other w _ b vs' hb
  have hsz : (w.setRow (g.b r) vs').heap.size = w.heap.size := setRow_size _ _ _
  have hne : ∀ b, g.own b = none → b ≠ g.b r := by rintro b hb rfl; rw [h2] at hb; cases hb
  have hne' : ∀ b s, ¬ s = r → g.own b = some s → b ≠ g.b r := by rintro b s hs hb rfl; rw [h2] at hb; exact hs (Option.some.inj hb).symm
  have hK : Keep X (fun s => s = r) (fun _ => False) w g st.rt (w.setRow (g.b r) vs') g (st.setR r (.box t cs')).rt := by
    refine ⟨fun b hb => ⟨⟨hb.1, by rw [hsz]; exact hb.2.1, hb.2.2⟩, oth b (hne b hb.1)⟩, fun b s hs hb => ⟨hb, oth b (hne' b s hs hb)⟩, fun _ _ _ => rfl, fun s e d xs hs hrow => ?_, fun s t' cs2 hb => ⟨rfl, ?_⟩, fun _ hb => hb.elim⟩
    · rw [setR_rt, if_neg (fun he => hs he.symm)]; exact hrow
    · rw [setR_rt]
      by_cases he : r = s
      · subst he
        rw [hr] at hb; cases hb
        exact ⟨cs', by rw [if_pos rfl, if_pos hlt]⟩
      · exact ⟨cs2, by rw [if_neg he]; exact hb⟩
  have hnr : ∀ s, IsRow st.rt s → ¬ s = r := by rintro s ⟨e, d, xs, hs⟩ rfl; rw [hr] at hs; cases hs
  have hcl : ∀ x : Cl, x.avd (fun s => s = r) (fun _ => False) st.rt := fun x => by
    cases x <;> first | trivial | exact fun hs => .inl (hnr _ hs)
  have hsv : ∀ x : SV, x.avd (fun s => s = r) (fun _ => False) st.rt := fun x => by
    cases x with
    | c x => exact hcl x
    | ag xs => exact fun y _ => hcl y
    | po => exact fun hs => .inl (hnr _ hs)
    | fn f caps =>
      intro y _
      cases y with
      | c x => exact hcl x
      | _ => trivial
    | tup vs => exact fun y _ z _ => hcl z
    | _ => trivial
  have hrv : ∀ x : Root, x.avd (fun s => s = r) (fun _ => False) st.rt := fun x => by
    cases x with
    | box t cs => exact fun y _ => hcl y
    | _ => trivial
  have hl : (st.setR r (.box t cs')).rt.length = st.rt.length := by show (st.rt.set r _).length = _; rw [List.length_set]
  refine ⟨⟨fun i y hy => ?_, fun b hb => by rw [hsz]; exact h.mem.lt b hb, fun b s hb => by rw [hl]; exact h.mem.ob b s hb, by rw [hsz]; exact h.mem.n0, h.mem.np, by rw [hl]; exact h.mem.nl, h.mem.pm, h.mem.pv⟩, h.sz, fun i sv hi => SVR.keep h.mem hK (hsv sv) (h.sl i sv hi), h.df,
    ⟨h.fr.os, h.fr.tape, h.fr.output, by rw [hsz]; exact h.fr.size, fun b hb ho => ?_⟩⟩
  · have hy0 := hy
    rw [setR_rt] at hy
    split at hy
    · rename_i he; subst he
      obtain rfl := Option.some.inj hy
      exact ⟨vs', setRow_heap w _ _ _ _ _ h1, h2, ClsR.keep h.mem hK (fun x _ => hcl x) hc⟩
    · rename_i he
      exact RootR.keep h.mem hK hy (fun h => he h.symm) (hrv y)
  · obtain ⟨e1, e2⟩ := h.fr.block b hb ho
    exact ⟨e1, (oth b (hne b e1)).trans e2⟩
end
end Go.Proofs.Ytlkcpabdpmenpaa.Eng
/- The evaluator, part 15: stores into rows. Of no program. -/
namespace Go.Proofs.Ytlkcpabdpmenpaa.Eng
open Go.RowKit
set_option linter.unusedVariables false

section
variable {P : Program} {X : Ctx} {own0 : Nat → Option Nat} {w0 : World} {st : St} {a : Act} {w w' : World} {g g' : Gh} {R : Type}

/-- The row's own part of a store into an element. -/
theorem ownsAt_store {e : TypeId} {size n : Nat} {b q c : Nat} {cs : List Value} (ho : ownsAt w e size (.slice (some ⟨b, q, none⟩) n c) n cs) {i o : Nat} {vs : List Value} (hi : i < n) (hov : o + vs.length ≤ size) :
    ∃ cur cs', w.heap[b]? = some (.cells cur e (0, 0)) ∧ (q + (i * size + o)) + vs.length ≤ cur.size ∧ ownsAt (w.setRow b (stored cur (q + (i * size + o)) vs)) e size (.slice (some ⟨b, q, none⟩) n c) n cs' ∧
      ∀ k, k < n * size → cs'[k]? = if i * size + o ≤ k ∧ k < i * size + o + vs.length then vs[k - (i * size + o)]? else cs[k]? := by
  obtain ⟨hlen, h⟩ := ho
  rcases h with ⟨h0, _⟩ | ⟨b', q', cap, cur, hv, hg, hnc, hcm, hcs, htk⟩
  · cases h0
  · cases hv
    have h1 := Nat.mul_le_mul_right size hnc
    have h2 : i * size + size ≤ n * size := by
      have := Nat.mul_le_mul_right size (Nat.succ_le_of_lt hi)
      rwa [Nat.succ_mul] at this
    have h3 : (q + (i * size + o)) + vs.length ≤ cur.size := by omega
    refine ⟨cur, ((stored cur (q + (i * size + o)) vs).toList.drop q).take (n * size), hg, h3, ⟨?_, .inr ⟨b, q, c, stored cur (q + (i * size + o)) vs, rfl, setRow_heap w b cur _ e _ hg, hnc, hcm, by rw [stored_size h3]; exact hcs, rfl⟩⟩, fun k hk => ?_⟩
    · rw [List.length_take, List.length_drop, Array.length_toList, stored_size h3]; omega
    · rw [List.getElem?_take, if_pos hk, List.getElem?_drop, stored_get h3]
      by_cases h4 : i * size + o ≤ k ∧ k < i * size + o + vs.length
      · rw [if_pos h4, if_pos (by omega), show q + k - (q + (i * size + o)) = k - (i * size + o) from by omega]
      · rw [if_neg h4, if_neg (by omega), ← htk, List.getElem?_take, if_pos hk, List.getElem?_drop]
theorem idx_ne {i i' j' size o k : Nat} (hj : j' < size) (hk : o + k ≤ size) (h : i * size + o ≤ i' * size + j' ∧ i' * size + j' < i * size + o + k) : i' = i ∧ o ≤ j' ∧ j' < o + k := by
  have h1 : i' = i := by
    refine Nat.le_antisymm (Nat.le_of_not_lt fun hlt => ?_) (Nat.le_of_not_lt fun hlt => ?_)
    · have := Nat.mul_le_mul_right size (Nat.succ_le_of_lt hlt)
      rw [Nat.succ_mul] at this
      omega
    · have := Nat.mul_le_mul_right size (Nat.succ_le_of_lt hlt)
      rw [Nat.succ_mul] at this
      omega
  subst h1
  exact ⟨rfl, by omega, by omega⟩
/-- The block of a slice. -/
theorem setEl_get {ys : List (List U)} {i o : Nat} {us : List U} {i' : Nat} {x : List U} (h : (setEl ys i o us)[i']? = some x) : (i' = i ∧ i < ys.length ∧ x = splice (ys.getD i []) o us) ∨ (i' ≠ i ∧ ys[i']? = some x) := by
  unfold setEl at h
  rw [List.getElem?_set] at h
  by_cases he : i = i'
  · subst he
    simp only [if_true] at h
    split at h
    · rename_i hl; exact .inl ⟨rfl, hl, (Option.some.inj h).symm⟩
    · cases h
  · rw [if_neg he] at h
    exact .inr ⟨fun h => he h.symm, h⟩
theorem RepO.setEl {Fp : Nat → Prop} {e : TypeId} {ys : List (List U)} {b q n c : Nat} (h : RepO X.T.ct w Fp (.slc e) (.lst ys) (.slice (some ⟨b, q, none⟩) n c)) {i o : Nat} (hi : i < ys.length) {cls : List Cl} {vs : List Value} {us : List U} {rs : List Nat}
    (hs : ElU X st w g true (((X.T.ct e).drop o).take cls.length) cls vs us rs) (hvs : vs.length = cls.length) (h0 : cls.length ≠ 0) (hn : rs.Nodup) (hdis : ∀ b, Fp b → ∀ s ∈ rs, g.own b ≠ some s) :
    ∃ cur, w.heap[b]? = some (.cells cur e (0, 0)) ∧ Fp b ∧ (q + (i * X.T.size e + o)) + vs.length ≤ cur.size ∧
      RepO X.T.ct (w.setRow b (stored cur (q + (i * X.T.size e + o)) vs)) (fun x => Fp x ∨ ∃ s ∈ rs, g.own x = some s) (.slc e) (.lst (setEl ys i o us)) (.slice (some ⟨b, q, none⟩) n c) := by
  cases h with
  | row _ _ _ _ cs V lab ho hg hV hsz hh =>
    have hn' : ys.length = n := by
      obtain ⟨A, c', hv, _⟩ := ownsAt_slice ho
      cases hv; rfl
    subst hn'
    have hk : o + cls.length ≤ (X.T.ct e).length := by
      have := hs.l2
      rw [List.length_take, List.length_drop] at this
      omega
    have hlu : us.length = cls.length := hs.l1.trans hs.l2.symm
    obtain ⟨cur, cs', hg1, hl1, ho', hget⟩ := ownsAt_store (vs := vs) (o := o) ho hi (by rw [hvs]; exact hk)
    obtain ⟨hFb, hlb⟩ := hg b rfl
    refine ⟨cur, hg1, hFb, hl1, ?_⟩
    have hx := getD_lt (d := []) hi
    have hrow : (ys.getD i []).length = (X.T.ct e).length := hsz i _ hx
    have hnc : ∀ x, Fp x → ¬ ∃ j, CF g cls j x := by
      rintro x hF ⟨j, r, p, e', h1, h2⟩
      exact hdis x hF r (hs.mem j r p e' h1) h2
    classical
    let lab' : Nat → Option (Nat × Nat) := fun x => if hx : ∃ j, CF g cls j x then some (i, o + Classical.choose hx) else lab x
    have lab1 : ∀ x, Fp x → lab' x = lab x := fun x hF => dif_neg (hnc x hF)
    have lab2 : ∀ x j, CF g cls j x → lab' x = some (i, o + j) := by
      intro x j hj
      have hex : ∃ j, CF g cls j x := ⟨j, hj⟩
      show (if hx : ∃ j, CF g cls j x then some (i, o + Classical.choose hx) else lab x) = _
      rw [dif_pos hex]
      have h2 := Classical.choose_spec hex
      generalize Classical.choose hex = j2 at h2
      obtain ⟨r, p, e', h3, h4⟩ := hj
      obtain ⟨r', p', e2, h5, h6⟩ := h2
      obtain rfl : r = r' := by rw [h4] at h6; exact Option.some.inj h6
      rw [hs.uni hn j j2 r p e' p' e2 h3 h5]
    have hne : ∀ x, x ≠ b → (w.setRow b (stored cur (q + (i * X.T.size e + o)) vs)).heap[x]? = w.heap[x]? := fun x hx => setRow_other w b x _ hx
    have oldc : ∀ (i' j' : Nat) (y : List U) (u : U) (ct : CT), ys[i']? = some y → y[j']? = some u → (X.T.ct e)[j']? = some ct → RepO X.T.ct (w.setRow b (stored cur (q + (i * X.T.size e + o)) vs)) (fun x => (Fp x ∨ ∃ s ∈ rs, g.own x = some s) ∧ lab' x = some (i', j')) ct u (V i' j') := by
      intro i' j' y u ct hy hu hct
      refine (hh i' j' y u ct hy hu hct).imp fun x hx => ⟨⟨.inl hx.1, by rw [lab1 x hx.1]; exact hx.2⟩, hne x ?_⟩
      rintro rfl
      rw [hlb] at hx; cases hx.2
    refine .row _ e _ _ cs' (fun i' j' => if i' = i ∧ o ≤ j' ∧ j' < o + cls.length then (vs[j' - o]?).getD undef else V i' j') lab' (by show _ = _ ∧ _; rw [Eng.setEl, List.length_set]; exact ho') (fun b' hb' => ?_) (fun i' j' y hy hj => ?_) (fun i' y hy => ?_) (fun i' j' y u ct hy hu hct => ?_)
    · simp only [Value.ownBlock, Option.some.injEq] at hb'
      subst hb'
      exact ⟨.inl hFb, by rw [lab1 b hFb]; exact hlb⟩
    · have hi' : i' < ys.length := by
        have := lt_of_some hy
        rwa [Eng.setEl, List.length_set] at this
      have hyl : y.length = (X.T.ct e).length := by
        rcases setEl_get hy with ⟨_, _, rfl⟩ | ⟨_, hy'⟩
        · rw [splice_length]; exact hrow
        · exact hsz i' y hy'
      have hj2 : j' < X.T.size e := by rw [hyl] at hj; exact hj
      have hkk := mul_lt_of hi' hj2
      have h1 := hget (i' * X.T.size e + j') hkk
      rw [hvs, show (X.T.ct e).length = X.T.size e from rfl] at h1
      rw [show (X.T.ct e).length = X.T.size e from rfl, h1]
      by_cases hin : i' = i ∧ o ≤ j' ∧ j' < o + cls.length
      · obtain ⟨rfl, h2, h3⟩ := hin
        rw [if_pos (by omega), if_pos ⟨rfl, h2, h3⟩, show i' * X.T.size e + j' - (i' * X.T.size e + o) = j' - o from by omega, List.getElem?_eq_getElem (by omega)]
        rfl
      · rw [if_neg (fun hc => hin (idx_ne (k := cls.length) hj2 hk hc)), if_neg hin]
        exact hV i' j' _ (getD_lt (d := []) hi') (by rw [hsz i' _ (getD_lt (d := []) hi')]; exact hj2)
    · rcases setEl_get hy with ⟨_, _, rfl⟩ | ⟨_, hy'⟩
      · rw [splice_length]; exact hrow
      · exact hsz i' y hy'
    · rcases setEl_get hy with ⟨rfl, _, rfl⟩ | ⟨hne', hy'⟩
      · rw [splice_get _ _ _ _ (by rw [hlu, hrow]; exact hk), hlu] at hu
        by_cases hin : o ≤ j' ∧ j' < o + cls.length
        · rw [if_pos hin] at hu
          rw [if_pos ⟨rfl, hin.1, hin.2⟩]
          have hv : vs[j' - o]? = some ((vs[j' - o]?).getD undef) := by
            rw [List.getElem?_eq_getElem (by omega)]; rfl
          have hct' : (((X.T.ct e).drop o).take cls.length)[j' - o]? = some ct := by
            rw [List.getElem?_take, if_pos (by omega), List.getElem?_drop, show o + (j' - o) = j' from by omega]; exact hct
          refine (hs.own rfl (j' - o) u ct _ hu hct' hv).imp fun x hx => ?_
          have hx' := hx
          obtain ⟨r, p, e', h3, h4⟩ := hx
          have hrm := hs.mem _ r p e' h3
          refine ⟨⟨.inr ⟨r, hrm, h4⟩, by rw [lab2 x _ hx', show o + (j' - o) = j' from by omega]⟩, hne x ?_⟩
          rintro rfl
          exact hdis _ hFb r hrm h4
        · rw [if_neg hin] at hu
          rw [if_neg (fun hc => hin hc.2)]
          exact oldc i' j' _ u ct hx hu hct
      · rw [if_neg (fun hc => hne' hc.1)]
        exact oldc i' j' y u ct hy' hu hct
theorem RepS.setEl {Fp ok : Nat → Prop} {e : TypeId} {ys : List (List U)} {b q n c : Nat} (h : RepS X.T.ct w Fp ok e ys (.slice (some ⟨b, q, none⟩) n c)) {i o : Nat} (hi : i < ys.length) {cls : List Cl} {vs : List Value} {us : List U} {rs : List Nat}
    (hs : ElU X st w g false (((X.T.ct e).drop o).take cls.length) cls vs us rs) (hvs : vs.length = cls.length) (h0 : cls.length ≠ 0) (hok : ∀ x, ok x → x ≠ b) (hok' : ∀ x, okb X w g x → ok x) :
    ∃ cur, w.heap[b]? = some (.cells cur e (0, 0)) ∧ Fp b ∧ (q + (i * X.T.size e + o)) + vs.length ≤ cur.size ∧
      RepS X.T.ct (w.setRow b (stored cur (q + (i * X.T.size e + o)) vs)) Fp ok e (setEl ys i o us) (.slice (some ⟨b, q, none⟩) n c) := by
  obtain ⟨cs, V, ho, hg, hV, hsz, hh⟩ := h.ex
  have hn' : ys.length = n := by
    obtain ⟨A, c', hv, _⟩ := ownsAt_slice ho
    cases hv; rfl
  subst hn'
  have hk : o + cls.length ≤ (X.T.ct e).length := by
    have := hs.l2
    rw [List.length_take, List.length_drop] at this
    omega
  have hlu : us.length = cls.length := hs.l1.trans hs.l2.symm
  obtain ⟨cur, cs', hg1, hl1, ho', hget⟩ := ownsAt_store (vs := vs) (o := o) ho hi (by rw [hvs]; exact hk)
  have hFb := hg b rfl
  refine ⟨cur, hg1, hFb, hl1, ?_⟩
  have hx := getD_lt (d := []) hi
  have hrow : (ys.getD i []).length = (X.T.ct e).length := hsz i _ hx
  have hne : ∀ x, x ≠ b → (w.setRow b (stored cur (q + (i * X.T.size e + o)) vs)).heap[x]? = w.heap[x]? := fun x hx => setRow_other w b x _ hx
  have oldc : ∀ (i' j' : Nat) (y : List U) (u : U) (ct : CT), ys[i']? = some y → y[j']? = some u → (X.T.ct e)[j']? = some ct → RepR X.T.ct (w.setRow b (stored cur (q + (i * X.T.size e + o)) vs)) ok ct u (V i' j') :=
    fun i' j' y u ct hy hu hct => (hh i' j' y u ct hy hu hct).imp fun x hx => ⟨hx, hne x (hok x hx)⟩
  refine ⟨cs', fun i' j' => if i' = i ∧ o ≤ j' ∧ j' < o + cls.length then (vs[j' - o]?).getD undef else V i' j', (by show _ = _ ∧ _; rw [Eng.setEl, List.length_set]; exact ho'), (fun b' hb' => ?_), (fun i' j' y hy hj => ?_), (fun i' y hy => ?_), (fun i' j' y u ct hy hu hct => ?_)⟩
  · simp only [Value.ownBlock, Option.some.injEq] at hb'
    subst hb'
    exact hFb
  · dsimp only
    have hi' : i' < ys.length := by
      have := lt_of_some hy
      rwa [Eng.setEl, List.length_set] at this
    have hyl : y.length = (X.T.ct e).length := by
      rcases setEl_get hy with ⟨_, _, rfl⟩ | ⟨_, hy'⟩
      · rw [splice_length]; exact hrow
      · exact hsz i' y hy'
    have hj2 : j' < X.T.size e := by rw [hyl] at hj; exact hj
    have hkk := mul_lt_of hi' hj2
    have h1 := hget (i' * X.T.size e + j') hkk
    rw [hvs, show (X.T.ct e).length = X.T.size e from rfl] at h1
    rw [show (X.T.ct e).length = X.T.size e from rfl, h1]
    by_cases hin : i' = i ∧ o ≤ j' ∧ j' < o + cls.length
    · obtain ⟨rfl, h2, h3⟩ := hin
      rw [if_pos (by omega), if_pos ⟨rfl, h2, h3⟩, show i' * X.T.size e + j' - (i' * X.T.size e + o) = j' - o from by omega, List.getElem?_eq_getElem (by omega)]
      rfl
    · rw [if_neg (fun hc => hin (idx_ne (k := cls.length) hj2 hk hc)), if_neg hin]
      exact hV i' j' _ (getD_lt (d := []) hi') (by rw [hsz i' _ (getD_lt (d := []) hi')]; exact hj2)
  · rcases setEl_get hy with ⟨_, _, rfl⟩ | ⟨_, hy'⟩
    · rw [splice_length]; exact hrow
    · exact hsz i' y hy'
  · dsimp only
    rcases setEl_get hy with ⟨rfl, _, rfl⟩ | ⟨hne', hy'⟩
    · rw [splice_get _ _ _ _ (by rw [hlu, hrow]; exact hk), hlu] at hu
      by_cases hin : o ≤ j' ∧ j' < o + cls.length
      · rw [if_pos hin] at hu
        rw [if_pos ⟨rfl, hin.1, hin.2⟩]
        have hv : vs[j' - o]? = some ((vs[j' - o]?).getD undef) := by
          rw [List.getElem?_eq_getElem (by omega)]; rfl
        have hct' : (((X.T.ct e).drop o).take cls.length)[j' - o]? = some ct := by
          rw [List.getElem?_take, if_pos (by omega), List.getElem?_drop, show o + (j' - o) = j' from by omega]; exact hct
        exact (hs.rd rfl (j' - o) u ct _ hu hct' hv).imp fun x hx => ⟨hok' x hx, hne x (hok x (hok' x hx))⟩
      · rw [if_neg hin] at hu
        rw [if_neg (fun hc => hin hc.2)]
        exact oldc i' j' _ u ct hx hu hct
    · rw [if_neg (fun hc => hne' hc.1)]
      exact oldc i' j' y u ct hy' hu hct
/-- One cell of an element changes, and what lies behind it. -/
theorem RepO.setCell {T : Tab} {w : World} {F : Nat → Prop} {e : TypeId} {ys : List (List U)} {b q n c i o : Nat} {x : List U} {u1 : U} {ct1 : CT} {v1 : Value} (h : RepO T w F (.slc e) (.lst ys) (.slice (some ⟨b, q, none⟩) n c)) (hx : ys[i]? = some x) (hu : x[o]? = some u1) (hct : (T e)[o]? = some ct1)
    (hc : w.cell? ⟨b, q + (i * (T e).length + o), none⟩ = some v1) : ∃ (cur : Array Value) (Fo : Nat → Prop), w.heap[b]? = some (.cells cur e (0, 0)) ∧ F b ∧ ¬ Fo b ∧ q + (i * (T e).length + o) + 1 ≤ cur.size ∧ (∀ b', Fo b' → F b') ∧ RepO T w Fo ct1 u1 v1 ∧
      ∀ (w' : World) (N : Nat → Prop) (u' : U) (v' : Value), (∀ b', F b' → ¬ Fo b' → b' ≠ b → w'.heap[b']? = w.heap[b']?) → w'.heap[b]? = some (.cells (stored cur (q + (i * (T e).length + o)) [v']) e (0, 0)) → RepO T w' N ct1 u' v' → (∀ b', N b' → Fo b' ∨ ¬ F b') →
        RepO T w' (fun b' => (F b' ∧ ¬ Fo b') ∨ N b') (.slc e) (.lst (ys.set i (x.set o u'))) (.slice (some ⟨b, q, none⟩) n c) := by
  cases h with
  | row _ _ _ _ cs V lab ho hg hV hsz hh =>
    have hn' : ys.length = n := by
      obtain ⟨A, c', hv, _⟩ := ownsAt_slice ho
      cases hv; rfl
    subst hn'
    have hi := lt_of_some hx
    have hol : o < (T e).length := lt_of_some hct
    obtain ⟨gF, gl⟩ := hg b rfl
    have hcell := ownsAt_cell ho (hV i o x hx (lt_of_some hu))
    obtain rfl := Option.some.inj (hcell.symm.trans hc)
    obtain ⟨cur, cs0, k1, k2, -, -⟩ := ownsAt_store (vs := [undef]) (o := o) ho hi (by simp; omega)
    refine ⟨cur, fun b' => F b' ∧ lab b' = some (i, o), k1, gF, fun hb => (by have := hb.2; rw [gl] at this; cases this), by simpa using k2, fun b' hb => hb.1, hh i o x u1 ct1 hx hu hct, fun w' N u' v' hw hb hr hN => ?_⟩
    obtain ⟨cur2, cs', k3, k4, k5, k6⟩ := ownsAt_store (vs := [v']) (o := o) ho hi (by simp; omega)
    obtain rfl : cur = cur2 := by rw [k1] at k3; cases k3; rfl
    have ho' : ownsAt w' e (T e).length (.slice (some ⟨b, q, none⟩) ys.length c) ys.length cs' := by
      refine ownsAt_heap k5 fun g' hg' => ?_
      simp only [Value.ownBlock, Option.some.injEq] at hg'
      subst hg'
      rw [hb]
      exact (setRow_heap w b cur _ e _ k1).symm
    have hNb : ¬ N b := fun hn => (hN b hn).elim (fun hb => by have := hb.2; rw [gl] at this; cases this) fun hnf => hnf gF
    classical
    refine .row _ e _ _ cs' (fun i' j' => if i' = i ∧ j' = o then v' else V i' j') (fun b' => if N b' then some (i, o) else lab b') (by rw [List.length_set]; exact ho') (fun g' hg' => ?_) (fun i' j' y hy hj => ?_) (fun i' y hy => ?_) (fun i' j' y u2 ct2 hy hu2 hct2 => ?_)
    · simp only [Value.ownBlock, Option.some.injEq] at hg'
      subst hg'
      exact ⟨.inl ⟨gF, fun hb => by have := hb.2; rw [gl] at this; cases this⟩, by rw [if_neg hNb]; exact gl⟩
    · have hyl : i' < ys.length ∧ y.length = (T e).length := by
        rw [List.getElem?_set] at hy
        split at hy
        · rename_i he; subst he
          obtain rfl := Option.some.inj hy
          exact ⟨hi, by rw [List.length_set]; exact hsz i x hx⟩
        · exact ⟨lt_of_some hy, hsz i' y hy⟩
      obtain ⟨hi', hyl⟩ := hyl
      rw [hyl] at hj
      have hkk := mul_lt_of hi' hj
      have h1 := k6 (i' * (T e).length + j') hkk
      rw [h1]
      simp only [List.length_cons, List.length_nil]
      by_cases hin : i' = i ∧ j' = o
      · obtain ⟨rfl, rfl⟩ := hin
        rw [if_pos (by omega), if_pos ⟨rfl, rfl⟩, Nat.sub_self]; rfl
      · rw [if_neg (fun hcc => hin (by have := idx_ne (k := 1) (i := i) (i' := i') (o := o) hj (by omega) (by omega); omega)), if_neg hin]
        have hy' := List.getElem?_eq_getElem hi'
        exact hV i' j' _ hy' (by rw [hsz i' _ hy']; exact hj)
    · rw [List.getElem?_set] at hy
      split at hy
      · rename_i he; subst he
        obtain rfl := Option.some.inj hy
        rw [List.length_set]; exact hsz i x hx
      · exact hsz i' y hy
    · have other : ∀ (y : List U) (u2 : U), ys[i']? = some y → y[j']? = some u2 → ¬ (i' = i ∧ j' = o) → RepO T w' (fun b => ((F b ∧ ¬ (F b ∧ lab b = some (i, o))) ∨ N b) ∧ (if N b then some (i, o) else lab b) = some (i', j')) ct2 u2 (if i' = i ∧ j' = o then v' else V i' j') := by
        intro y u2 hy hu2 hne
        rw [if_neg hne]
        refine (hh i' j' y u2 ct2 hy hu2 hct2).imp fun b' hb' => ?_
        have hnp : ¬ (F b' ∧ lab b' = some (i, o)) := fun hp => by rw [hb'.2] at hp; exact hne (by have := Option.some.inj hp.2; exact ⟨(Prod.mk.inj this).1, (Prod.mk.inj this).2⟩)
        have hnn : ¬ N b' := fun hn => (hN b' hn).elim hnp fun hnf => hnf hb'.1
        refine ⟨⟨.inl ⟨hb'.1, hnp⟩, by rw [if_neg hnn]; exact hb'.2⟩, hw b' hb'.1 hnp ?_⟩
        rintro rfl
        have := hb'.2
        rw [gl] at this; cases this
      rw [List.getElem?_set] at hy
      split at hy
      · rename_i he; subst he
        obtain rfl := Option.some.inj hy
        rw [List.getElem?_set] at hu2
        split at hu2
        · rename_i hjj; subst hjj
          split at hu2
          · obtain rfl := Option.some.inj hu2
            obtain rfl := Option.some.inj (hct.symm.trans hct2)
            rw [if_pos ⟨rfl, rfl⟩]
            refine hr.mono fun b' hb' => ⟨.inr hb', by rw [if_pos hb']⟩
          · cases hu2
        · rename_i hjj
          exact other x u2 hx hu2 fun hh' => hjj hh'.2.symm
      · rename_i he
        exact other y u2 hy hu2 fun hh' => he hh'.1.symm
/-- The roots rs become root r's. -/
def Gh.merge (g : Gh) (r : Nat) (rs : List Nat) : Gh := ⟨fun x => match g.own x with | some s => if s ∈ rs then some r else some s | none => none, g.v, g.b⟩
theorem Gh.merge_none {x r : Nat} {rs : List Nat} : (g.merge r rs).own x = none ↔ g.own x = none := by
  show (match g.own x with | some s => if s ∈ rs then some r else some s | none => none) = none ↔ _
  cases g.own x with
  | none => simp
  | some s => by_cases hs : s ∈ rs <;> simp [hs]
theorem Gh.merge_some {x r s : Nat} {rs : List Nat} (h : g.own x = some s) : (g.merge r rs).own x = if s ∈ rs then some r else some s := by
  show (match g.own x with | some s => if s ∈ rs then some r else some s | none => none) = _
  rw [h]
theorem setB_eq (v : Bool) : ∀ (bs : List Bool) (o k : Nat), k ≤ o → setB v o bs k = (bs.map Cl.bool).set (o - k) (.bool v)
  | [], o, k, h => by simp [setB]
  | b :: bs, o, k, h => by
    unfold setB
    by_cases hk : k = o
    · subst hk
      have e : ∀ (bs : List Bool) (j : Nat), k < j → setB v k bs j = bs.map Cl.bool := by
        intro bs
        induction bs with
        | nil => intro j _; rfl
        | cons c bs ih => intro j hj; unfold setB; rw [ih (j + 1) (by omega), decide_eq_false (by omega)]; rfl
      rw [e bs (k + 1) (by omega), decide_eq_true rfl, Nat.sub_self]; rfl
    · rw [setB_eq v bs o (k + 1) (by omega), decide_eq_false hk, show o - k = (o - (k + 1)) + 1 from by omega]; rfl
theorem boolsSt_old {T : Tabs} {t' t : TypeId} {old cs : List Cl} {bs : List Bool} {v : Bool} {o : Nat} (h : boolsSt T t' t old cs = some (bs, v)) (ho : o < bs.length) : o + cs.length ≤ old.length ∧ spliceC old o cs = setB v o bs 0 := by
  unfold boolsSt at h
  split at h
  · rename_i bs' v' h1
    cases h
    have h2 : old = bs.map .bool := by
      unfold boolsAt at h1
      split at h1
      · exact boolsOf_len h1
      · cases h1
    subst h2
    refine ⟨by simp; omega, ?_⟩
    rw [setB_eq v bs o 0 (Nat.zero_le _)]; rfl
  · cases h
theorem storeK_sound (hT : TabOk P X.T) (h : Rel X own0 w0 st a w g) {o : Oper} {t : TypeId} {x y : Operand} (ho : o.op = .store t x y) {K : St → Option R} {r : R} (hq : storeK X.T st t (ev st x) (ev st y) o.dst K = some r) :
    ∃ st', K st' = some r ∧ OpTo P X own0 w0 o a w st' := by
  have hx := ev_sound h x
  have hy := ev_sound h y
  unfold storeK at hq
  split at hq
  · rename_i cs hcs
    have hc := clsOf_sound h hy hcs
    have hcl := hc.length
    split at hq
    · rename_i hh
      obtain ⟨hsz, ht, hs0⟩ := hh
      have hvs : (a.eval y).cells.size = X.T.size t := by rw [← Array.length_toList, ← hcl]; exact hsz
      have hones := hc.ones h.mem
      generalize ev st x = sx at *
      split at hq
      · rename_i r0 o0
        split at hq
        · rename_i t' old hr
          have hq : (if o0 + cs.length ≤ old.length then K ((st.setR r0 (.box t' (spliceC old o0 cs))).put o.dst .no) else none) = some r := by
            split at hq
            · rename_i bs v hb
              cases hz : decide (o0 < bs.length) with
              | false => rw [hz] at hq; cases hq
              | true =>
                rw [hz] at hq
                obtain ⟨q1, q2⟩ := boolsSt_old hb (of_decide_eq_true hz)
                rw [if_pos q1, q2]; exact hq
            · exact hq
          split at hq
          · rename_i hl
            refine ⟨_, hq, ?_⟩
            obtain ⟨vs, h1, h2, h3⟩ := h.mem.rt r0 _ hr
            have h3l := h3.length
            have hle : o0 + (a.eval y).cells.toList.length ≤ vs.size := by
              have q1 : vs.toList.length = vs.size := Array.length_toList
              rw [← q1, ← h3l, ← hcl]; exact hl
            obtain ⟨he, _⟩ := hx
            have hb := h.setBox hr (cs' := spliceC old o0 cs) (vs' := stored vs o0 (a.eval y).cells.toList) (by rw [stored_splice hle]; exact h3.splice o0 hc)
            refine OpTo.skip (w' := w.setRow (g.b r0) (stored vs o0 (a.eval y).cells.toList)) ?_ (hb.put o.dst (sv := .no) (v := undef) trivial)
            have := run_storeAt hT ht hvs h1 hle hones
            simp [execOp, ho, he, this]
          · cases hq
        · cases hq
      · rename_i r0 p e i o0
        split at hq
        · rename_i e0 deep xs hr
          split at hq
          · rename_i us rs hel
            split at hq
            · rename_i hh
              obtain ⟨hnd, hdp⟩ := hh
              refine ⟨_, hq, ?_⟩
              have hnd' := nodupB_spec hnd
              have hn2 := List.nodup_cons.1 hnd'
              have hs := elemU_spec h.mem hel hc
              obtain ⟨e0', d', xs', b, q, n, c, h1, h2, h3, h4, h5⟩ := hx
              obtain ⟨rfl, rfl, rfl⟩ : e0 = e0' ∧ deep = d' ∧ xs = xs' := by rw [hr] at h1; cases h1; exact ⟨rfl, rfl, rfl⟩
              have hroot := h.mem.rt r0 _ hr
              have hrows : ∀ s ∈ rs, IsRow st.rt s := fun s hs' => by obtain ⟨⟨e', ys, hh⟩, _⟩ := hs.row s hs'; exact ⟨e', true, ys, hh⟩
              have hnb : nodupB rs = true := nodupB_of hn2.2
              have hvl : (a.eval y).cells.toList.length = cs.length := hcl.symm
              have hc0 : cs.length ≠ 0 := by rw [hsz]; exact hs0
              -- memory
              have key : ∃ cur, w.heap[b]? = some (.cells cur e (0, 0)) ∧ g.own b = some r0 ∧ (q + (i * X.T.size e + o0)) + (a.eval y).cells.toList.length ≤ cur.size ∧
                  ∀ rt', RootR X (w.setRow b (stored cur (q + (i * X.T.size e + o0)) (a.eval y).cells.toList)) rt' (g.merge r0 rs) r0 (.row e0 deep (setP xs p (setEl (getP xs p) i o0 us))) := by
                cases deep with
                | true =>
                  have hroot : RepO _ _ _ _ _ _ := hroot
                  obtain ⟨Fp, f1, f2, f3⟩ := RepO.focus h3 hroot
                  obtain ⟨cur, k1, k2, k3, k4⟩ := RepO.setEl f2 h4 hs hvl hc0 hn2.2 fun b' hb' s hs' he' => by
                    have := f1 b' hb'
                    rw [this] at he'
                    obtain rfl := Option.some.inj he'
                    exact hn2.1 hs'
                  refine ⟨cur, k1, f1 b k2, k3, fun rt' => ?_⟩
                  have k5 := f3 _ _ _ (fun e' he' => by obtain rfl := CT.slc.inj he'; exact k4) ⟨e, rfl⟩ (fun b' hb' hn' => setRow_other w b b' _ (by rintro rfl; exact hn' k2)) (fun b' hb' => by
                    rcases hb' with hb' | ⟨s, hs', he'⟩
                    · exact .inl hb'
                    · right; intro hf; rw [hf] at he'; obtain rfl := Option.some.inj he'; exact hn2.1 hs')
                  have e1 : (if p = [] then (.lst (setEl (getP xs p) i o0 us) : U) else .lst (setP (U.lst xs).toLst p (setEl (getP xs p) i o0 us))) = .lst (setP xs p (setEl (getP xs p) i o0 us)) := by
                    split
                    · rename_i hp; subst hp; rfl
                    · rfl
                  rw [e1] at k5
                  show RepO _ _ _ _ _ (g.v r0)
                  refine k5.mono fun b' hb' => ?_
                  rcases hb' with hb' | hb' | ⟨s, hs', he'⟩
                  · rw [Gh.merge_some hb', if_neg hn2.1]
                  · rw [Gh.merge_some (f1 b' hb'), if_neg hn2.1]
                  · rw [Gh.merge_some he', if_pos hs']
                | false =>
                  obtain rfl : p = [] := by simpa using h2
                  have hroot : RepS _ _ _ _ _ _ _ := hroot
                  obtain ⟨q1, -, q3⟩ := h3.nil_inv
                  obtain rfl := CT.slc.inj q1
                  rw [← q3] at hroot
                  obtain ⟨cur, k1, k2, k3, k4⟩ := RepS.setEl hroot h4 hs hvl hc0 (fun x hx' => by
                    rintro rfl
                    obtain ⟨cs2, V2, ho2, hg2, _⟩ := hroot.ex
                    have := hg2 x rfl
                    have h9 := hx'.1
                    rw [this] at h9; cases h9) (fun x hx' => hx')
                  refine ⟨cur, k1, k2, k3, fun rt' => ?_⟩
                  show RepS _ _ _ _ _ _ (g.v r0)
                  rw [← q3]
                  refine k4.imp (fun b' hb' => ⟨by rw [Gh.merge_some hb', if_neg hn2.1], rfl⟩) (fun b' hb' => ⟨⟨Gh.merge_none.2 hb'.1, by rw [setRow_size]; exact hb'.2.1, hb'.2.2⟩, rfl⟩)
              obtain ⟨cur, k1, k2, k3, k4⟩ := key
              have h6 := h.consume rs hrows hnb
              have hr1 : (st.consume rs).rt[r0]? = some (.row e0 deep xs) := (consume_row rs hn2.1).2 hr
              have oth : ∀ b', b' ≠ b → (w.setRow b (stored cur (q + (i * X.T.size e + o0)) (a.eval y).cells.toList)).heap[b']? = w.heap[b']? := fun b' hb' => setRow_other w b b' _ hb'
              have hlt1 := lt_of_some hr1
              have hK : Keep X (fun s => s = r0 ∨ s ∈ rs) (fun s => s = r0 ∧ true = true) w g ((st.consume rs).purge r0 true).rt (w.setRow b (stored cur (q + (i * X.T.size e + o0)) (a.eval y).cells.toList)) (g.merge r0 rs)
                  (((st.consume rs).purge r0 true).setR r0 (.row e0 deep (setP xs p (setEl (getP xs p) i o0 us)))).rt := by
                refine ⟨fun b' hb' => ⟨⟨Gh.merge_none.2 hb'.1, by rw [setRow_size]; exact hb'.2.1, hb'.2.2⟩, oth b' (by rintro rfl; have := hb'.1; rw [k2] at this; cases this)⟩, fun b' s hs' hb' => ?_, fun _ _ _ => rfl, fun s e' d' ys hs' hrow => ?_, fun s t' cs' hb' => ⟨rfl, ?_⟩, fun s hs' => ⟨rfl, fun e' d' ys hrow => ?_⟩⟩
                · simp only [not_or] at hs'
                  exact ⟨by rw [Gh.merge_some hb', if_neg hs'.2], oth b' (by rintro rfl; rw [k2] at hb'; exact hs'.1 (Option.some.inj hb').symm)⟩
                · simp only [not_or] at hs'
                  rw [setR_rt, if_neg (fun he => hs'.1 he.symm)]; exact hrow
                · refine ⟨cs', ?_⟩
                  rw [setR_rt, if_neg]
                  · exact hb'
                  · rintro rfl
                    rw [purge_rt, hr1] at hb'; cases hb'
                · obtain ⟨rfl, -⟩ := hs'
                  rw [purge_rt, hr1] at hrow
                  cases hrow
                  refine ⟨deep, setP xs p (setEl (getP xs p) i o0 us), ?_, ?_⟩
                  · rw [setR_rt, if_pos rfl, if_pos (by show s < ((st.consume rs).rt.map _).length; rw [List.length_map]; exact hlt1)]
                  · cases p with
                    | nil => exact List.length_set
                    | cons a p => obtain ⟨i', o'⟩ := a; rw [setP_cons, List.length_set]
              have h7 := h6.change r0 true (Q := fun s => s ∈ rs) (free_drop (consume_free rs (St.free_false st))) (fun s z hs' _ hz => by rw [consume_gone rs hrows hnb hs'] at hz; exact (Option.some.inj hz).symm) (.row e0 deep (setP xs p (setEl (getP xs p) i o0 us)))
                hK (k4 _) (fun b' hb' => by rw [setRow_size]; exact h.mem.lt b' fun hn => hb' (Gh.merge_none.2 hn)) (fun b' s hb' => by
                  rw [consume_len]
                  cases hx' : g.own b' with
                  | none => rw [Gh.merge_none.2 hx'] at hb'; cases hb'
                  | some s' =>
                    rw [Gh.merge_some hx'] at hb'
                    split at hb'
                    · cases hb'; rw [← consume_len rs st]; exact hlt1
                    · cases hb'; exact h.mem.ob b' _ hx') (by rw [setRow_size]; exact Nat.le_refl _) (fun b' s hb' => by
                  cases hx' : g.own b' with
                  | none => rw [Gh.merge_none.2 hx'] at hb'; cases hb'
                  | some s' =>
                    rw [Gh.merge_some hx'] at hb'
                    have h8 := h.mem.pm b' s' hx'
                    split at hb'
                    · rename_i hm
                      have := (hs.row s' hm).2
                      rw [h.mem.np] at this
                      exact .inl (h8.resolve_right fun hh => by omega)
                    · cases hb'; exact h8) h.mem.pv
                ⟨h.fr.os, h.fr.tape, h.fr.output, by rw [setRow_size]; exact h.fr.size, fun b' hb' ho' => by
                  obtain ⟨e1, e2⟩ := h.fr.block b' hb' ho'
                  exact ⟨Gh.merge_none.2 e1, (oth b' (by rintro rfl; rw [k2] at e1; cases e1)).trans e2⟩⟩
              refine OpTo.skip (w' := w.setRow b (stored cur (q + (i * X.T.size e + o0)) (a.eval y).cells.toList)) ?_ (h7.put o.dst (sv := .no) (v := undef) trivial)
              have := run_storeAt hT ht hvs k1 k3 hones
              simp [execOp, ho, h5, this]
            · cases hq
          · cases hq
        · cases hq
      · cases hq
    · cases hq
  · cases hq
end
end Go.Proofs.Ytlkcpabdpmenpaa.Eng
/- The evaluator, part 16: append. Of no program. -/
namespace Go.Proofs.Ytlkcpabdpmenpaa.Eng
open Go.RowKit
set_option linter.unusedVariables false

section
variable {P : Program} {X : Ctx} {own0 : Nat → Option Nat} {w0 : World} {st : St} {a : Act} {w w' : World} {g g' : Gh} {R : Type}

/-- What an append leaves, as the kit says it. -/
structure Grew (P : Program) (w : World) (t ty e : TypeId) (size : Nat) (v x v' : Value) (w' : World) (cs news : List Value) (n m : Nat) : Prop where
  run : (Builtin.append_ #[t, t] ty #[v, x]).run P w = .ok v' w'
  own : ownsAt w' e size v' (n + m) (cs ++ news)
  grown : w.grownBy w' v.ownBlock
  blk : v'.ownBlock = v.ownBlock ∨ v'.ownBlock = some w.heap.size
  old : ownsAt w' e size v n cs
/-- The ghost behind an append. -/
def Gh.grow (g : Gh) (r : Nat) (rs : List Nat) (b : Nat) (v' : Value) : Gh :=
  ⟨fun x => if x = b then (if v'.ownBlock = some b then some r else none) else match g.own x with | some s => if s ∈ rs then some r else some s | none => none, fun s => if s = r then v' else g.v s, g.b⟩
theorem Gh.grow_none {r b x : Nat} {rs : List Nat} {v' : Value} (hx : x ≠ b) (h : g.own x = none) : (g.grow r rs b v').own x = none := by
  show (if x = b then _ else _) = _
  rw [if_neg hx, h]
theorem Gh.grow_some {r b x s : Nat} {rs : List Nat} {v' : Value} (hx : x ≠ b) (h : g.own x = some s) : (g.grow r rs b v').own x = if s ∈ rs then some r else some s := by
  show (if x = b then _ else _) = _
  rw [if_neg hx, h]
theorem Rel.appendTo (h : Rel X own0 w0 st a w g) {r : Nat} {e : TypeId} {deep : Bool} {xs ys : List (List U)} (hr : st.rt[r]? = some (.row e deep xs)) (hnp : st.np ≤ r) {rs : List Nat} (hrs : ∀ s ∈ rs, IsRow st.rt s ∧ st.np ≤ s) (hn : nodupB (r :: rs) = true)
    {t ty : TypeId} {x : Value} {news : List Value} {V2 : Nat → Nat → Value} {lab2 : Nat → Option (Nat × Nat)} (hsz2 : ∀ (i : Nat) y, ys[i]? = some y → y.length = (X.T.ct e).length) (hV2 : ∀ (i j : Nat) (y : List U), ys[i]? = some y → j < y.length → news[i * X.T.size e + j]? = some (V2 i j))
    (hd2 : deep = true → ∀ (i j : Nat) (y : List U) (u : U) (ct : CT), ys[i]? = some y → y[j]? = some u → (X.T.ct e)[j]? = some ct → RepO X.T.ct w (fun b => (∃ s ∈ rs, g.own b = some s) ∧ lab2 b = some (i, j)) ct u (V2 i j))
    (hr2 : deep = false → ∀ (i j : Nat) (y : List U) (u : U) (ct : CT), ys[i]? = some y → y[j]? = some u → (X.T.ct e)[j]? = some ct → RepR X.T.ct w (okb X w g) ct u (V2 i j))
    (hrun : ∀ cs, ownsAt w e (X.T.size e) (g.v r) xs.length cs → ∃ v' w', Grew P w t ty e (X.T.size e) (g.v r) x v' w' cs news xs.length ys.length) :
    ∃ v' w' g', (Builtin.append_ #[t, t] ty #[g.v r, x]).run P w = .ok v' w' ∧ Rel X own0 w0 (((st.consume rs).purge r false).setR r (.row e deep (xs ++ ys))) a w' g' ∧ g'.v r = v' := by
  have hn' := nodupB_spec hn
  have hn2 := List.nodup_cons.1 hn'
  have hrows : ∀ s ∈ rs, IsRow st.rt s := fun s hs => (hrs s hs).1
  have hnb : nodupB rs = true := nodupB_of hn2.2
  have h6 := h.consume rs hrows hnb
  have hr1 : (st.consume rs).rt[r]? = some (.row e deep xs) := (consume_row rs hn2.1).2 hr
  have hlt1 := lt_of_some hr1
  have hroot := h.mem.rt r _ hr
  -- the row as it was
  have old : ∃ (cs : List Value) (V : Nat → Nat → Value) (lab : Nat → Option (Nat × Nat)), ownsAt w e (X.T.size e) (g.v r) xs.length cs ∧ (∀ b, (g.v r).ownBlock = some b → g.own b = some r ∧ lab b = none) ∧
      (∀ (i j : Nat) (y : List U), xs[i]? = some y → j < y.length → cs[i * X.T.size e + j]? = some (V i j)) ∧ (∀ (i : Nat) y, xs[i]? = some y → y.length = (X.T.ct e).length) ∧
      (deep = true → ∀ (i j : Nat) (y : List U) (u : U) (ct : CT), xs[i]? = some y → y[j]? = some u → (X.T.ct e)[j]? = some ct → RepO X.T.ct w (fun b => g.own b = some r ∧ lab b = some (i, j)) ct u (V i j)) ∧
      (deep = false → ∀ (i j : Nat) (y : List U) (u : U) (ct : CT), xs[i]? = some y → y[j]? = some u → (X.T.ct e)[j]? = some ct → RepR X.T.ct w (okb X w g) ct u (V i j)) := by
    cases deep with
    | true =>
      have hroot : RepO _ _ _ _ _ _ := hroot
      generalize g.v r = v at *
      cases hroot with
      | row _ _ _ _ cs V lab ho hg hV hs hh => exact ⟨cs, V, lab, ho, hg, hV, hs, fun _ => hh, fun h => by cases h⟩
    | false =>
      obtain ⟨cs, V, ho, hg, hV, hs, hh⟩ := RepS.ex hroot
      exact ⟨cs, V, fun _ => none, ho, fun b hb => ⟨hg b hb, rfl⟩, hV, hs, fun h => (by cases h), fun _ => hh⟩
  obtain ⟨cs, V, lab, ho, hg, hV, hs, hh1, hh2⟩ := old
  obtain ⟨v', w', hG⟩ := hrun cs ho
  have hB := hG.grown
  have hlt : ∀ b s, g.own b = some s → b < w.heap.size := fun b s hb => h.mem.lt b (by rw [hb]; simp)
  have same : ∀ b, b < w.heap.size → (∀ c, (g.v r).ownBlock = some c → b ≠ c) → w'.heap[b]? = w.heap[b]? := fun b hb hne => hB.block b hb fun he => hne b he.symm rfl
  have hown0 := own_none_of_ge h (Nat.le_refl w.heap.size)
  let g' := g.grow r rs w.heap.size v'
  have hv' : g'.v r = v' := if_pos rfl
  have hnone : ∀ b, b < w.heap.size → g.own b = none → g'.own b = none := fun b hb hb' => Gh.grow_none (by omega) hb'
  have hsame1 : ∀ b s, g.own b = some s → ¬ s = r → w'.heap[b]? = w.heap[b]? := fun b s hb hs' => same b (hlt b s hb) fun c hc => by
    rintro rfl
    have := (hg b hc).1
    rw [this] at hb
    exact hs' (Option.some.inj hb).symm
  have hsame0 : ∀ b, okb X w g b → w'.heap[b]? = w.heap[b]? := fun b hb => same b hb.2.1 fun c hc => by
    rintro rfl
    have := (hg b hc).1
    have h0 := hb.1
    rw [this] at h0; cases h0
  have hokb : ∀ b, okb X w g b → okb X w' g' b := fun b hb => ⟨hnone b hb.2.1 hb.1, Nat.lt_of_lt_of_le hb.2.1 hB.size, hb.2.2⟩
  have hown' : ownsAt w' e (X.T.ct e).length v' (xs ++ ys).length (cs ++ news) := by rw [List.length_append]; exact hG.own
  have hblk : ∀ b, v'.ownBlock = some b → g'.own b = some r ∧ (b = w.heap.size ∨ (g.v r).ownBlock = some b) := by
    intro b hb
    rcases hG.blk with he | he
    · rw [he] at hb
      have hb1 := (hg b hb).1
      have := hlt b r hb1
      refine ⟨?_, .inr hb⟩
      rw [show g'.own b = _ from Gh.grow_some (by omega) hb1, if_neg hn2.1]
    · rw [he] at hb
      obtain rfl := Option.some.inj hb
      refine ⟨?_, .inl rfl⟩
      show (if w.heap.size = w.heap.size then (if v'.ownBlock = some w.heap.size then some r else none) else _) = _
      rw [if_pos rfl, if_pos he]
  have hcl : cs.length = xs.length * X.T.size e := ho.1
  let V' : Nat → Nat → Value := fun i j => if i < xs.length then V i j else V2 (i - xs.length) j
  have hget : ∀ (i : Nat) (y : List U), (xs ++ ys)[i]? = some y → (i < xs.length ∧ xs[i]? = some y) ∨ (xs.length ≤ i ∧ ys[i - xs.length]? = some y) := by
    intro i y hy
    by_cases hi : i < xs.length
    · rw [List.getElem?_append_left hi] at hy; exact .inl ⟨hi, hy⟩
    · rw [List.getElem?_append_right (by omega)] at hy; exact .inr ⟨by omega, hy⟩
  have hVall : ∀ (i j : Nat) (y : List U), (xs ++ ys)[i]? = some y → j < y.length → (cs ++ news)[i * X.T.size e + j]? = some (V' i j) := by
    intro i j y hy hj
    rcases hget i y hy with ⟨hi, hy⟩ | ⟨hi, hy⟩
    · have hjl : j < X.T.size e := by rw [hs i y hy] at hj; exact hj
      have := mul_lt_of hi hjl
      rw [List.getElem?_append_left (by omega), hV i j y hy hj]
      show _ = some (if i < xs.length then _ else _)
      rw [if_pos hi]
    · have e1 : i * X.T.size e = xs.length * X.T.size e + (i - xs.length) * X.T.size e := by rw [← Nat.add_mul]; congr 1; omega
      rw [List.getElem?_append_right (by omega), hcl, show i * X.T.size e + j - xs.length * X.T.size e = (i - xs.length) * X.T.size e + j from by omega, hV2 _ j y hy hj]
      show _ = some (if i < xs.length then _ else _)
      rw [if_neg (by omega)]
  have hszall : ∀ (i : Nat) y, (xs ++ ys)[i]? = some y → y.length = (X.T.ct e).length := by
    intro i y hy
    rcases hget i y hy with ⟨_, hy⟩ | ⟨_, hy⟩
    · exact hs i y hy
    · exact hsz2 _ y hy
  have hroot' : ∀ rt', RootR X w' rt' g' r (.row e deep (xs ++ ys)) := by
    intro rt'
    cases deep with
    | true =>
      show RepO _ _ _ _ _ (g'.v r)
      rw [hv']
      let lab' : Nat → Option (Nat × Nat) := fun b => match g.own b with | none => none | some s => if s ∈ rs then (lab2 b).map (fun (ij : Nat × Nat) => (ij.1 + xs.length, ij.2)) else lab b
      refine .row _ e _ v' (cs ++ news) V' lab' hown' (fun b hb => ?_) hVall hszall (fun i j y u ct hy hu hct => ?_)
      · obtain ⟨h1, h2⟩ := hblk b hb
        refine ⟨h1, ?_⟩
        show (match g.own b with | none => none | some s => if s ∈ rs then (lab2 b).map (fun (ij : Nat × Nat) => (ij.1 + xs.length, ij.2)) else lab b) = none
        rcases h2 with rfl | h2
        · rw [hown0]
        · obtain ⟨h3, h4⟩ := hg b h2
          rw [h3]
          simp only [if_neg hn2.1]
          exact h4
      · rcases hget i y hy with ⟨hi, hy⟩ | ⟨hi, hy⟩
        · have hv : V' i j = V i j := if_pos hi
          rw [hv]
          refine (hh1 rfl i j y u ct hy hu hct).imp fun b hb => ?_
          have hbl := hlt b r hb.1
          refine ⟨⟨by rw [show g'.own b = _ from Gh.grow_some (by omega) hb.1, if_neg hn2.1], ?_⟩, same b hbl fun c hc => ?_⟩
          · show (match g.own b with | none => none | some s => if s ∈ rs then (lab2 b).map (fun (ij : Nat × Nat) => (ij.1 + xs.length, ij.2)) else lab b) = _
            rw [hb.1]
            simp only [if_neg hn2.1]
            exact hb.2
          · rintro rfl
            have := (hg b hc).2
            rw [this] at hb; cases hb.2
        · have hv : V' i j = V2 (i - xs.length) j := if_neg (by omega)
          rw [hv]
          refine (hd2 rfl (i - xs.length) j y u ct hy hu hct).imp fun b hb => ?_
          obtain ⟨⟨s, hs', hb1⟩, hb2⟩ := hb
          have hbl := hlt b s hb1
          have hsr : ¬ s = r := by rintro rfl; exact hn2.1 hs'
          refine ⟨⟨by rw [show g'.own b = _ from Gh.grow_some (by omega) hb1, if_pos hs'], ?_⟩, hsame1 b s hb1 hsr⟩
          show (match g.own b with | none => none | some s => if s ∈ rs then (lab2 b).map (fun (ij : Nat × Nat) => (ij.1 + xs.length, ij.2)) else lab b) = _
          rw [hb1]
          simp only [if_pos hs', hb2, Option.map_some, Option.some.injEq, Prod.mk.injEq, and_true]
          omega
    | false =>
      show RepS _ _ _ _ _ _ (g'.v r)
      rw [hv']
      refine ⟨cs ++ news, V', hown', fun b hb => (hblk b hb).1, hVall, hszall, fun i j y u ct hy hu hct => ?_⟩
      rcases hget i y hy with ⟨hi, hy⟩ | ⟨hi, hy⟩
      · have hv : V' i j = V i j := if_pos hi
        rw [hv]
        exact (hh2 rfl i j y u ct hy hu hct).imp fun b hb => ⟨hokb b hb, hsame0 b hb⟩
      · have hv : V' i j = V2 (i - xs.length) j := if_neg (by omega)
        rw [hv]
        exact (hr2 rfl (i - xs.length) j y u ct hy hu hct).imp fun b hb => ⟨hokb b hb, hsame0 b hb⟩
  have hK : Keep X (fun s => s = r ∨ s ∈ rs) (fun s => s = r ∧ false = true) w g ((st.consume rs).purge r false).rt w' g' (((st.consume rs).purge r false).setR r (.row e deep (xs ++ ys))).rt := by
    refine ⟨fun b hb => ⟨hokb b hb, hsame0 b hb⟩, fun b s hs' hb => ?_, fun s _ hs' => ?_, fun s e' d' zs hs' hrow => ?_, fun s t' cs' hb => ⟨rfl, cs', ?_⟩, fun s hs' => by simp at hs'⟩
    · simp only [not_or] at hs'
      have := hlt b s hb
      exact ⟨by rw [show g'.own b = _ from Gh.grow_some (by omega) hb, if_neg hs'.2], hsame1 b s hb hs'.1⟩
    · simp only [not_or] at hs'
      show (if s = r then v' else g.v s) = _
      rw [if_neg hs'.1]
    · simp only [not_or] at hs'
      rw [setR_rt, if_neg (fun he => hs'.1 he.symm)]; exact hrow
    · rw [setR_rt, if_neg]
      · exact hb
      · rintro rfl
        rw [purge_rt, hr1] at hb; cases hb
  have hownlt : ∀ b s, g'.own b = some s → b < w'.heap.size ∧ s < st.rt.length ∧ (X.nw b ∨ (s < X.np ∧ X.po b = some s)) := by
    intro b s hb
    by_cases hbe : b = w.heap.size
    · subst hbe
      have hb2 : (if v'.ownBlock = some w.heap.size then some r else none) = some s := by
        have : g'.own w.heap.size = (if v'.ownBlock = some w.heap.size then some r else none) := if_pos rfl
        rw [← this]; exact hb
      split at hb2
      · rename_i hvo
        cases hb2
        exact ⟨ownsAt_lt hG.own w.heap.size hvo, lt_of_some hr, .inl (h.mem.n0 _ (Nat.le_refl _))⟩
      · cases hb2
    · cases hx : g.own b with
      | none => rw [show g'.own b = none from Gh.grow_none hbe hx] at hb; cases hb
      | some s' =>
        rw [show g'.own b = _ from Gh.grow_some hbe hx] at hb
        have h8 := h.mem.pm b s' hx
        have h9 := hlt b s' hx
        split at hb
        · rename_i hm
          have := (hrs s' hm).2
          cases hb
          rw [h.mem.np] at this
          exact ⟨Nat.lt_of_lt_of_le h9 hB.size, lt_of_some hr, by exact .inl (h8.resolve_right fun hh => by omega)⟩
        · cases hb; exact ⟨Nat.lt_of_lt_of_le h9 hB.size, h.mem.ob b _ hx, h8⟩
  refine ⟨v', w', g', hG.run, ?_, hv'⟩
  refine h6.change r false (Q := fun s => s ∈ rs) (free_drop (consume_free rs (St.free_false st))) (fun s z hs' _ hz => by rw [consume_gone rs hrows hnb hs'] at hz; exact (Option.some.inj hz).symm) _ hK (hroot' _) (fun b hb => ?_) (fun b s hb => ?_) hB.size (fun b s hb => (hownlt b s hb).2.2) (fun s hs' => ?_)
    ⟨hB.os.trans h.fr.os, hB.tape.trans h.fr.tape, hB.output.trans h.fr.output, Nat.le_trans h.fr.size hB.size, fun b hb ho' => ?_⟩
  · cases hx : g'.own b with
    | none => exact absurd hx hb
    | some s => exact (hownlt b s hx).1
  · rw [consume_len]; exact (hownlt b s hb).2.1
  · show (if s = r then v' else g.v s) = _
    rw [h.mem.np] at hnp
    rw [if_neg (by omega)]; exact h.mem.pv s hs'
  · obtain ⟨e1, e2⟩ := h.fr.block b hb ho'
    have hbl := Nat.lt_of_lt_of_le hb h.fr.size
    refine ⟨hnone b hbl e1, (same b hbl fun c hc => ?_).trans e2⟩
    rintro rfl
    rw [(hg b hc).1] at e1; cases e1
end
end Go.Proofs.Ytlkcpabdpmenpaa.Eng
/- The evaluator, part 17: append, the operation. Of no program. -/
namespace Go.Proofs.Ytlkcpabdpmenpaa.Eng
open Go.RowKit
set_option linter.unusedVariables false

section
variable {P : Program} {X : Ctx} {own0 : Nat → Option Nat} {w0 : World} {st : St} {a : Act} {w w' : World} {g g' : Gh} {R : Type}

/-- What is appended. -/
structure Src (w : World) (size : Nat) (xv : Value) (m : Nat) (news : List Value) : Prop where
  ex : ∃ A c, xv = .slice A m c ∧ (∀ ad, A = some ad → ∀ (j : Nat) u, news[j]? = some u → w.cell? (ad.add j) = some u) ∧ (A = none → m = 0)
  len : news.length = m * size
  one : ∀ u ∈ news, u.oneCell' = true
theorem Src.grew (hT : TabOk P X.T) {t ty e : TypeId} (hd : (X.T.row t).d = .one (.slc e)) (hk : (X.T.row e).d.known = true) (hs0 : X.T.size e ≠ 0) {v xv : Value} {n m : Nat} {cs news : List Value} (hs : Src w (X.T.size e) xv m news)
    (ho : ownsAt w e (X.T.size e) v n cs) (hroom : room (n + m) (X.T.row e).bytes = true) : ∃ v' w', Grew P w t ty e (X.T.size e) v xv v' w' cs news n m := by
  obtain ⟨i, desc, h1, h2, h3, h4, h5, h6⟩ := hT.ok e hk
  obtain ⟨A, c, rfl, hc, hz⟩ := hs.ex
  have hr := of_decide_eq_true hroom
  have hzs : (X.T.row e).zero.cells.size = X.T.size e := by
    rw [TRow.zero_cells' hT]
    simp [Tabs.size, Tabs.ct]
  cases A with
  | none =>
    obtain rfl := hz rfl
    have hnews : news = [] := List.eq_nil_of_length_eq_zero (by simpa using hs.len)
    subst hnews
    refine ⟨v, w, ?_, by simpa using ho, ⟨rfl, rfl, rfl, Nat.le_refl _, fun _ _ _ => rfl⟩, .inl rfl, ho⟩
    obtain ⟨B, cc, rfl, hle, _⟩ := ownsAt_slice ho
    cases B with
    | none => simp [Builtin.append_, run_underlying (und_slc hT hd), run_sizeOf hT hk, Builtin.lenOf, Builtin.firstCells, hle]
    | some bb => simp [Builtin.append_, run_underlying (und_slc hT hd), run_sizeOf hT hk, Builtin.lenOf, Builtin.firstCells, hle, storeCells]
  | some ad =>
    rcases ho.2 with ⟨rfl, rfl⟩ | ⟨b, q, cap, cur, rfl, hg, hnc, hcm, hcs, htk⟩
    · obtain rfl : cs = [] := List.eq_nil_of_length_eq_zero (by simpa using ho.1)
      obtain ⟨v', w', q1, q2, q3, q4, q5⟩ := run_append_own_at (P := P) w 0 t ty e i (X.T.row e).zero (X.T.size e) (X.T.row e).bytes (und_slc hT hd) h1 h5 h3 h4 hzs (Nat.pos_of_ne_zero hs0) _ 0 [] (World.ownsRow_nil w 0 e _) ad m c news hs.len (hc ad rfl) hs.one hr.2 hr.1 (Nat.zero_le _)
      exact ⟨v', w', q1, .of q2, q3, q5, by simp, .inl ⟨rfl, rfl⟩⟩
    · have hcsl : cs.length = n * X.T.size e := ho.1
      have hnl := hs.len
      have hlen : (cs ++ news).length = (n + m) * X.T.size e := by rw [List.length_append, hcsl, hnl, Nat.add_mul]
      have hcl : cur.toList.length = cur.size := Array.length_toList
      by_cases hrm : n + m ≤ cap
      · have hfit : (n + m) * X.T.size e ≤ cap * X.T.size e := Nat.mul_le_mul_right _ hrm
        rw [Nat.add_mul] at hfit
        have hf := run_firstCells_some (P := P) w i.size m ad m c news (by rw [h3]; exact hnl) (hc ad rfl)
        have hst := run_storeCells_at P b (q + n * i.size) e news 0 cur w hg (by rw [h3]; omega) hs.one
        simp only [Nat.add_zero] at hst
        have hrun : (Builtin.append_ #[t, t] ty #[.slice (some ⟨b, q, none⟩) n cap, .slice (some ad) m c]).run P w = .ok (.slice (some ⟨b, q, none⟩) (n + m) cap) (w.setRow b (cur.toList.take (q + n * i.size) ++ news ++ cur.toList.drop (q + n * i.size + news.length)).toArray) := by
          simp [Builtin.append_, run_underlying (und_slc hT hd), sizeOf, typeInfo, h1, Builtin.lenOf, hrm, hf, Addr.add_lit, hst]
        refine ⟨_, _, hrun, ⟨hlen, .inr ⟨b, q, cap, _, rfl, setRow_heap w b cur _ e _ hg, hrm, hcm, ?_, ?_⟩⟩, ⟨rfl, rfl, rfl, by simp, fun k hk' => setRow_other w b k _ ∘ fun hne e => hne (by simp [Value.ownBlock, e])⟩, .inl rfl, ⟨hcsl, .inr ⟨b, q, cap, _, rfl, setRow_heap w b cur _ e _ hg, hnc, hcm, ?_, ?_⟩⟩⟩
        · rw [h3]
          simp only [List.size_toArray, List.length_append, List.length_take, List.length_drop, hcl]
          omega
        · rw [h3, ← hlen, ← htk]
          have e1 : q ≤ (cur.toList.take (q + n * X.T.size e)).length := by rw [List.length_take, hcl]; omega
          have e2 : (cur.toList.take (q + n * X.T.size e)).drop q = (cur.toList.drop q).take (n * X.T.size e) := by rw [List.drop_take]; congr 1; omega
          rw [List.append_assoc, List.drop_append_of_le_length e1, e2, ← List.append_assoc]
          exact List.take_left
        · rw [h3]
          simp only [List.size_toArray, List.length_append, List.length_take, List.length_drop, hcl]
          omega
        · rw [h3]
          have e1 : q ≤ (cur.toList.take (q + n * X.T.size e)).length := by rw [List.length_take, hcl]; omega
          have e2 : (cur.toList.take (q + n * X.T.size e)).drop q = (cur.toList.drop q).take (n * X.T.size e) := by rw [List.drop_take]; congr 1; omega
          rw [List.append_assoc, List.drop_append_of_le_length e1, e2, htk, ← hcsl]
          exact List.take_left
      · have hold : ∀ j u, cs[j]? = some u → w.cell? (Addr.add ⟨b, q, none⟩ j) = some u := fun j u hu => by
          rw [Addr.add_lit]; exact ownsAt_cell ho hu
        have hgr := run_append_grow (P := P) w t ty e i (X.T.row e).zero (und_slc hT hd) h1 h5 ⟨b, q, none⟩ n cap cs (by rw [h3]; exact hcsl) hold ad m c news (by rw [h3]; exact hnl) (hc ad rfl) (by omega) (by omega) (growslice_fits (by omega) (by rw [h4]; exact hr.1))
        have hge := grownCap_ge w (n + m) cap e
        have hcm' : grownCap w (n + m) cap e ≤ maxLen := grownCap_le_maxLen w (n + m) cap e (by simp only [maxLen]; omega)
        refine ⟨_, _, hgr, ownsAt.of (base := 0) ⟨hlen, .inr ⟨w.heap.size, _, _, rfl, Nat.zero_le _, heap_alloc_new w.drew _, hge, hcm', ?_, ?_⟩⟩, ⟨rfl, rfl, rfl, by simp, fun k hk' _ => heap_alloc_old w.drew _ k hk'⟩, .inr rfl, ownsAt_heap ho fun k hk' => ?_⟩
        · simp only [Array.size_append, List.size_toArray, size_zeroCells, hzs, hcsl, hnl, ← Nat.add_mul]
          congr 1
          omega
        · simp only [Array.toList_append, List.append_assoc]
          rw [← List.append_assoc, ← hlen]
          exact List.take_left
        · simp only [Value.ownBlock, Option.some.injEq] at hk'
          subst hk'
          exact heap_alloc_old w.drew _ b (Array.getElem?_eq_some_iff.1 hg).1
/-- The cells of a slice that is read, one after another. -/
def flatV (V : Nat → Nat → Value) (size n : Nat) : List Value := (List.range (n * size)).map fun k => V (k / size) (k % size)
theorem flatV_get {V : Nat → Nat → Value} {size n i j : Nat} (hi : i < n) (hj : j < size) : (flatV V size n)[i * size + j]? = some (V i j) := by
  have h1 := mul_lt_of hi hj
  simp only [flatV, List.getElem?_map, List.getElem?_range h1, Option.map_some, Option.some.injEq]
  rw [Nat.mul_comm i size, Nat.mul_add_div (by omega), Nat.div_eq_of_lt hj, Nat.mul_add_mod, Nat.mod_eq_of_lt hj, Nat.add_zero]
theorem Src.ofR {ok : Nat → Prop} {e : TypeId} {ys : List (List U)} {xv : Value} (hs0 : X.T.size e ≠ 0) (h : RepR X.T.ct w ok (.slc e) (.lst ys) xv) : ∃ V : Nat → Nat → Value, Src w (X.T.size e) xv ys.length (flatV V (X.T.size e) ys.length) ∧
    (∀ (i : Nat) y, ys[i]? = some y → y.length = (X.T.ct e).length) ∧ ∀ (i j : Nat) (y : List U) (u : U) (ct : CT), ys[i]? = some y → y[j]? = some u → (X.T.ct e)[j]? = some ct → RepR X.T.ct w ok ct u (V i j) := by
  cases h with
  | slc e xs A c V hl hm hA hs h =>
    have hpos := Nat.pos_of_ne_zero hs0
    have split : ∀ k, k < ys.length * X.T.size e → k / X.T.size e < ys.length ∧ k % X.T.size e < X.T.size e := fun k hk => ⟨Nat.div_lt_of_lt_mul (by rw [Nat.mul_comm]; exact hk), Nat.mod_lt _ hpos⟩
    have cellk : ∀ (k : Nat) u, (flatV V (X.T.size e) ys.length)[k]? = some u → k < ys.length * X.T.size e ∧ u = V (k / X.T.size e) (k % X.T.size e) := by
      intro k u hu
      have hk : k < ys.length * X.T.size e := by have := lt_of_some hu; simpa [flatV] using this
      simp only [flatV, List.getElem?_map, List.getElem?_range hk, Option.map_some, Option.some.injEq] at hu
      exact ⟨hk, hu.symm⟩
    refine ⟨V, ⟨⟨A, c, rfl, fun ad had j u hu => ?_, fun hn => ?_⟩, by simp [flatV], fun u hu => ?_⟩, hs, h⟩
    · obtain ⟨hk, rfl⟩ := cellk j u hu
      obtain ⟨h1, h2⟩ := split j hk
      obtain ⟨b, o, hb, _, hc⟩ := hA (Nat.lt_of_le_of_lt (Nat.zero_le _) h1)
      rw [had] at hb
      obtain rfl := Option.some.inj hb
      have hy := getD_lt (d := []) h1
      have := hc _ (j % X.T.size e) _ hy (by rw [hs _ _ hy]; exact h2)
      rw [Addr.add_lit, ← this]
      congr 2
      rw [show (X.T.ct e).length = X.T.size e from rfl, Nat.mul_comm]
      have := Nat.div_add_mod j (X.T.size e)
      omega
    · refine Nat.eq_zero_of_not_pos fun hp => ?_
      obtain ⟨b, o, hb, _⟩ := hA hp
      rw [hn] at hb; cases hb
    · obtain ⟨k, hk⟩ := List.getElem?_of_mem hu
      obtain ⟨hk', rfl⟩ := cellk k u hk
      obtain ⟨h1, h2⟩ := split k hk'
      have hy := getD_lt (d := []) h1
      have hy2 : (ys.getD (k / X.T.size e) []).length = (X.T.ct e).length := hs _ _ hy
      exact (h _ _ _ _ _ hy (getD_lt (d := U0) (by rw [hy2]; exact h2)) (List.getElem?_eq_getElem (show k % X.T.size e < (X.T.ct e).length from h2))).one
theorem Src.ofOwn {e : TypeId} {ys : List (List U)} {v : Value} {cs : List Value} {V : Nat → Nat → Value} (hs0 : X.T.size e ≠ 0) (hO : ownsAt w e (X.T.ct e).length v ys.length cs) (hsz : ∀ (i : Nat) y, ys[i]? = some y → y.length = (X.T.ct e).length)
    (hV : ∀ (i j : Nat) (y : List U), ys[i]? = some y → j < y.length → cs[i * (X.T.ct e).length + j]? = some (V i j)) (h1 : ∀ (i j : Nat) (y : List U) (u : U) (ct : CT), ys[i]? = some y → y[j]? = some u → (X.T.ct e)[j]? = some ct → (V i j).oneCell' = true) : Src w (X.T.size e) v ys.length cs := by
  obtain ⟨A, c, rfl, _⟩ := ownsAt_slice hO
  refine ⟨⟨A, c, rfl, fun ad had j u hu => ?_, fun hA => ?_⟩, hO.1, fun u hu => ?_⟩
  · subst had
    have hsome : ∃ b q, ad = ⟨b, q, none⟩ := by
      rcases hO.2 with ⟨hh, _⟩ | ⟨b, q, cap, cur, hh, _⟩
      · cases hh
      · cases hh; exact ⟨b, q, rfl⟩
    obtain ⟨b, q, rfl⟩ := hsome
    rw [Addr.add_lit]
    exact ownsAt_cell hO hu
  · refine Nat.eq_zero_of_not_pos fun hp => ?_
    obtain ⟨b, q, cc, hh⟩ := ownsAt_some hO hp
    cases hh; cases hA
  · obtain ⟨k, hk'⟩ := List.getElem?_of_mem hu
    have hkl := lt_of_some hk'
    have hkl' : k < ys.length * X.T.size e := by
      have h9 : cs.length = ys.length * X.T.size e := hO.1
      omega
    have hpos := Nat.pos_of_ne_zero hs0
    have i1 : k / X.T.size e < ys.length := Nat.div_lt_of_lt_mul (by rw [Nat.mul_comm]; exact hkl')
    have i2 : k % X.T.size e < X.T.size e := Nat.mod_lt _ hpos
    have hy := getD_lt (d := []) i1
    have hyl := hsz _ _ hy
    have i3 : (ys.getD (k / X.T.size e) [])[k % X.T.size e]? = some ((ys.getD (k / X.T.size e) []).getD (k % X.T.size e) U0) := getD_lt (by rw [hyl]; exact i2)
    have i4 := hV _ (k % X.T.size e) _ hy (lt_of_some i3)
    have i5 : k / X.T.size e * (X.T.ct e).length + k % X.T.size e = k := by
      rw [show (X.T.ct e).length = X.T.size e from rfl, Nat.mul_comm]; exact Nat.div_add_mod k _
    rw [i5, hk'] at i4
    rw [Option.some.inj i4]
    exact h1 _ _ _ _ _ hy i3 (List.getElem?_eq_getElem (show k % X.T.size e < (X.T.ct e).length from i2))
theorem Rel.addNil (h : Rel X own0 w0 st a w g) (e : TypeId) : Rel X own0 w0 (st.add (.row e true [])) a w ⟨g.own, fun s => if s = st.rt.length then .slice none 0 0 else g.v s, g.b⟩ := by
  refine h.add _ (fun b hb => ⟨hb, rfl⟩) (fun b r hb => ⟨hb, rfl⟩) (fun r hr => ⟨if_neg (by omega), rfl⟩) ?_ h.mem.lt (fun b s hb => by have := h.mem.ob b s hb; omega) (Nat.le_refl _) h.mem.pm ⟨h.fr.os, h.fr.tape, h.fr.output, h.fr.size, h.fr.block⟩
  show RepO _ _ _ _ _ (if st.rt.length = st.rt.length then _ else _)
  rw [if_pos rfl]
  exact RepO.nil e
theorem addNil_al {e : TypeId} : SVR X w (st.add (.row e true [])).rt ⟨g.own, fun s => if s = st.rt.length then .slice none 0 0 else g.v s, g.b⟩ (.c (.al st.rt.length [] e)) (.slice none 0 0) := by
  refine ⟨e, true, [], by show (st.rt ++ [_])[st.rt.length]? = _; simp, .inl rfl, ?_⟩
  show At _ _ _ _ (if st.rt.length = st.rt.length then _ else _) _ _ _ _
  rw [if_pos rfl]
  exact .nil _ _ _
theorem flat_ct {cts : List CT} (h : flatB cts = true) {j : Nat} {ct : CT} (hj : cts[j]? = some ct) : ct.isSlc = false := by
  have := List.all_eq_true.1 h ct (List.mem_of_getElem? hj)
  simpa using this
theorem RepR.flatO {T : Tab} {ok : Nat → Prop} {ct : CT} {u : U} {v : Value} (h : RepR T w ok ct u v) (hf : ct.isSlc = false) (F : Nat → Prop) : RepO T w F ct u v := by
  cases h with
  | int k n => exact .int _ k n
  | bool b => exact .bool _ b
  | str s => exact .str _ s
  | slc => cases hf
theorem RepR.flatR {T : Tab} {ok : Nat → Prop} {ct : CT} {u : U} {v : Value} (h : RepR T w ok ct u v) (hf : ct.isSlc = false) (ok' : Nat → Prop) : RepR T w ok' ct u v := by
  cases h with
  | int k n => exact .int k n
  | bool b => exact .bool b
  | str s => exact .str s
  | slc => cases hf
theorem elem_d {T : Tabs} {t e : TypeId} (hd : T.elem t = some e) : (T.row t).d = .one (.slc e) := by
  unfold Tabs.elem TD.elem at hd
  split at hd
  · rename_i e' he; rw [he]; cases hd; rfl
  · cases hd
theorem appendK_sound (hT : TabOk P X.T) (h : Rel X own0 w0 st a w g) {o : Oper} {t t2 : TypeId} {s x : Operand} (ho : o.op = .call ⟨.builtin .append, #[s, x], #[t, t2]⟩) {K : St → Option R} {rr : R} (hq : appendK X.T st t t2 (ev st s) (ev st x) o.dst K = some rr) :
    ∃ st', K st' = some rr ∧ OpTo P X own0 w0 o a w st' := by
  unfold appendK at hq
  split at hq
  · rename_i e hel
    have hd := elem_d hel
    split at hq
    · rename_i hh
      obtain ⟨hk, hs0, rfl⟩ := hh
      have hs := ev_sound h s
      split at hq
      · rename_i st1 r hb
        -- the base
        have hbase : ∃ g1, Rel X own0 w0 st1 a w g1 ∧ a.eval s = g1.v r ∧ ev st1 x = ev st x := by
          unfold baseOf at hb
          split at hb
          · rename_i hz
            rw [hz] at hs
            cases hb
            have hs : a.eval s = .slice none 0 0 := hs
            exact ⟨_, h.addNil e, by rw [hs]; exact (if_pos rfl).symm, by cases x <;> rfl⟩
          · rename_i r' e' hz
            rw [hz] at hs
            split at hb
            · cases hb
              obtain ⟨e0, d, zs, q1, _, q3⟩ := hs
              obtain ⟨-, -, q4⟩ := q3.nil_inv
              exact ⟨g, h, q4, rfl⟩
            · cases hb
          · cases hb
        obtain ⟨g1, h1, hsv, hevx⟩ := hbase
        have hx := ev_sound h1 x
        rw [hevx] at hx
        generalize ev st x = sx at *
        have run1 : ∀ {v' w'}, (Builtin.append_ #[t2, t2] o.type #[g1.v r, a.eval x]).run P w = .ok v' w' → (execOp a.eval o).run P w = .ok (.value v') w' := by
          intro v' w' hr
          simp [execOp, ho, resolve, invoke, builtin, hsv, hr]
        split at hq
        · rename_i e0 deep xs hr
          split at hq
          · rename_i hh
            obtain ⟨rfl, hnp⟩ := hh
            have hlt := lt_of_some hr
            -- the end
            have fin : ∀ {rs : List Nat} {ys : List (List U)}, (∀ v' w' g', (Builtin.append_ #[t2, t2] o.type #[g1.v r, a.eval x]).run P w = .ok v' w' → Rel X own0 w0 (((st1.consume rs).purge r false).setR r (.row e0 deep (xs ++ ys))) a w' g' → g'.v r = v' →
                OpTo P X own0 w0 o a w ((((st1.consume rs).purge r false).setR r (.row e0 deep (xs ++ ys))).put o.dst (.c (.al r [] e0)))) := by
              intro rs ys v' w' g' q1 q2 q3
              refine OpTo.value (run1 q1) (q2.put o.dst (SVR.ofCl ⟨e0, deep, xs ++ ys, ?_, .inl rfl, ?_⟩))
              · rw [setR_rt, if_pos rfl, if_pos]
                show r < ((st1.consume rs).rt.map _).length
                rw [List.length_map, consume_len]; exact hlt
              · rw [q3]; exact .nil _ _ _
            split at hq
            · rename_i hfl
              split at hq
              · rename_i e' ys hsrc
                split at hq
                · rename_i he'
                  subst he'
                  cases hroom : room (xs.length + ys.length) (X.T.row e').bytes with
                  | false => rw [hroom] at hq; cases hq
                  | true =>
                    rw [hroom] at hq
                    have hR : ∃ ok : Nat → Prop, RepR X.T.ct w ok (.slc e') (.lst ys) (a.eval x) := by
                      split at hsrc
                      · cases hsrc
                        have hx : a.eval x = .slice none 0 0 := hx
                        exact ⟨fun _ => True, by rw [hx]; exact RepR.nil e' 0 none⟩
                      · unfold srcOf at hsrc
                        split at hsrc
                        · cases hsrc; exact ⟨_, hx⟩
                        · rename_i r2 p e2
                          split at hsrc
                          · rename_i e3 d3 zs hr2
                            cases hsrc
                            obtain ⟨e4, d4, zs', q1, q2⟩ := ClR.al_repr h1.mem hx
                            obtain ⟨rfl, rfl, rfl⟩ : e3 = e4 ∧ d3 = d4 ∧ zs = zs' := by rw [hr2] at q1; cases q1; exact ⟨rfl, rfl, rfl⟩
                            exact ⟨fun _ => True, q2 _ (fun _ _ => trivial) (fun _ _ => trivial)⟩
                          · cases hsrc
                        · cases hsrc
                    obtain ⟨ok, hR⟩ := hR
                    obtain ⟨V, q1, q2, q3⟩ := Src.ofR hs0 hR
                    obtain ⟨v', w', g', q4, q5, q6⟩ := h1.appendTo (P := P) hr hnp (rs := []) (fun _ hs' => by simp at hs') rfl (t := t2) (ty := o.type) (x := a.eval x) (news := flatV V (X.T.size e') ys.length) (V2 := V) (lab2 := fun _ => none) q2
                      (fun i j y hy hj => flatV_get (lt_of_some hy) (by rw [q2 i y hy] at hj; exact hj)) (fun _ i j y u ct hy hu hct => (q3 i j y u ct hy hu hct).flatO (flat_ct hfl hct) _) (fun _ i j y u ct hy hu hct => (q3 i j y u ct hy hu hct).flatR (flat_ct hfl hct) _)
                      (fun cs hcs => q1.grew hT hd hk hs0 hcs hroom)
                    exact ⟨_, hq, fin v' w' g' q4 q5 q6⟩
                · cases hq
              · cases hq
            · split at hq
              · rename_i r2 e2
                split at hq
                · rename_i e2' ys hr2
                  split at hq
                  · rename_i hh
                    obtain ⟨rfl, rfl, hne, hnp2⟩ := hh
                    cases hroom : room (xs.length + ys.length) (X.T.row e2).bytes with
                    | false => rw [hroom] at hq; cases hq
                    | true =>
                      rw [hroom] at hq
                      have hroot : RepO _ _ _ _ _ _ := h1.mem.rt r2 _ hr2
                      obtain ⟨e4, d4, zs', q1, q2, q3⟩ := hx
                      obtain ⟨-, -, q4⟩ := q3.nil_inv
                      rw [← q4] at hroot
                      generalize a.eval x = xv at *
                      cases hroot with
                      | row _ _ _ _ cs V lab hO hg hV hsz hh =>
                        have hsrc := Src.ofOwn hs0 hO hsz hV fun i j y u ct hy hu hct => (hh i j y u ct hy hu hct).one
                        obtain ⟨v', w', g', q5, q6, q7⟩ := h1.appendTo (P := P) hr hnp (rs := [r2]) (fun s' hs' => by rw [List.mem_singleton.1 hs']; exact ⟨⟨_, _, _, hr2⟩, hnp2⟩) (by simp [nodupB]; exact fun he => hne he.symm) (t := t2) (ty := o.type) (x := xv) (news := cs) (V2 := V) (lab2 := lab) hsz hV
                          (fun _ i j y u ct hy hu hct => (hh i j y u ct hy hu hct).mono fun b hb => ⟨⟨r2, by simp, hb.1⟩, hb.2⟩) (fun hf => by cases hf) (fun cs' hcs => hsrc.grew hT hd hk hs0 hcs hroom)
                        exact ⟨_, hq, fin v' w' g' q5 q6 q7⟩
                  · cases hq
                · cases hq
              · rename_i e2 ys
                split at hq
                · rename_i he2
                  subst he2
                  cases hroom : room (xs.length + ys.length) (X.T.row e2).bytes with
                  | false => rw [hroom] at hq; cases hq
                  | true =>
                    rw [hroom] at hq
                    obtain ⟨V, q1, q2, q3⟩ := Src.ofR hs0 hx
                    obtain ⟨v', w', g', q4, q5, q6⟩ := h1.appendTo (P := P) hr hnp (rs := []) (fun _ hs' => by simp at hs') rfl (t := t2) (ty := o.type) (x := a.eval x) (news := flatV V (X.T.size e2) ys.length) (V2 := V) (lab2 := fun _ => none) q2
                      (fun i j y hy hj => flatV_get (lt_of_some hy) (by rw [q2 i y hy] at hj; exact hj)) (fun hf => by cases hf) (fun _ => q3) (fun cs hcs => q1.grew hT hd hk hs0 hcs hroom)
                    exact ⟨_, hq, fin v' w' g' q4 q5 q6⟩
                · cases hq
              · rename_i r2 e2
                split at hq
                · rename_i e2' ys hr2
                  split at hq
                  · rename_i hh
                    obtain ⟨rfl, rfl, hne⟩ := hh
                    cases hroom : room (xs.length + ys.length) (X.T.row e2).bytes with
                    | false => rw [hroom] at hq; cases hq
                    | true =>
                      rw [hroom] at hq
                      have hroot : RepS _ _ _ _ _ _ _ := h1.mem.rt r2 _ hr2
                      obtain ⟨e4, d4, zs', q1, q2, q3⟩ := hx
                      obtain ⟨-, -, q4⟩ := q3.nil_inv
                      rw [← q4] at hroot
                      obtain ⟨cs, V, hO, hg, hV, hsz, hh⟩ := hroot.ex
                      have hsrc := Src.ofOwn hs0 hO hsz hV fun i j y u ct hy hu hct => (hh i j y u ct hy hu hct).one
                      obtain ⟨v', w', g', q5, q6, q7⟩ := h1.appendTo (P := P) hr hnp (rs := []) (fun _ hs' => by simp at hs') rfl (t := t2) (ty := o.type) (x := a.eval x) (news := cs) (V2 := V) (lab2 := fun _ => none) hsz hV
                        (fun hf => by cases hf) (fun _ => hh) (fun cs' hcs => hsrc.grew hT hd hk hs0 hcs hroom)
                      exact ⟨_, hq, fin v' w' g' q5 q6 q7⟩
                  · cases hq
                · cases hq
              · cases hq
          · cases hq
        · cases hq
      · cases hq
    · cases hq
  · cases hq
end
end Go.Proofs.Ytlkcpabdpmenpaa.Eng
