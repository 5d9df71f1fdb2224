/- The evaluator, part 7: one root changes; a temporary is set; what the tables say of the program. Of no program. -/
import Derived.Test.YtlblehdenhpijaaE6
namespace Go.Proofs.Ytlblehdenhpijaa.Eng
open Go.RowKit
set_option linter.unusedVariables false

section
variable {X : Ctx} {own0 : Nat → Option Nat} {w0 : World} {st : St} {a : Act} {w w' : World} {g g' : Gh}

theorem purge_rt (st : St) (r : Nat) (keep : Bool) (i : Nat) : (st.purge r keep).rt[i]? = (st.rt[i]?).map (Root.purge r keep) := List.getElem?_map
theorem setR_rt (st : St) (r : Nat) (x : Root) (i : Nat) : (st.setR r x).rt[i]? = if r = i then (if r < st.rt.length then some x else none) else st.rt[i]? := by
  show (st.rt.set r x)[i]? = _
  rw [List.getElem?_set]

/-- One root changes, what is known by it is forgotten; the roots of Q are gone. -/
theorem Mem.change (hm : Mem X st w g) (r : Nat) (keep : Bool) {Q : Nat → Prop} (hf : st.free Q) (hq : ∀ s x, Q s → s ≠ r → st.rt[s]? = some x → x = .gone) (x' : Root)
    (hK : Keep X (fun s => s = r ∨ Q s) (fun s => s = r ∧ keep = true) w g (st.purge r keep).rt w' g' ((st.purge r keep).setR r x').rt)
    (hx : RootR X w' ((st.purge r keep).setR r x').rt g' r x') (lt : ∀ b, g'.own b ≠ none → b < w'.heap.size) (ob : ∀ b s, g'.own b = some s → s < st.rt.length) (n0 : w.heap.size ≤ w'.heap.size)
    (pm : ∀ b s, g'.own b = some s → X.n0 ≤ b ∨ (s < X.np ∧ X.po b = some s)) (pv : ∀ s, s < X.np → g'.v s = X.pv s) : Mem X ((st.purge r keep).setR r x') w' g' := by
  have hl : ((st.purge r keep).setR r x').rt.length = st.rt.length := by
    show ((st.rt.map _).set r x').length = _
    rw [List.length_set, List.length_map]
  refine ⟨fun i y hy => ?_, lt, fun b s h => by rw [hl]; exact ob b s h, Nat.le_trans hm.n0 n0, hm.np, by rw [hl]; exact hm.nl, pm, pv⟩
  have hy0 := hy
  rw [setR_rt] at hy
  split at hy
  · rename_i hri
    subst hri
    split at hy
    · obtain rfl := Option.some.inj hy; exact hx
    · cases hy
  · rename_i hri
    by_cases hqi : Q i
    · rw [purge_rt] at hy
      obtain ⟨z, hz, rfl⟩ := Option.map_eq_some_iff.1 hy
      obtain rfl := hq i z hqi (fun h => hri h.symm) hz
      trivial
    · refine RootR.keep (hm.purge r keep) hK hy (fun h => h.elim (fun h => hri h.symm) hqi) ?_
      rw [purge_rt] at hy
      obtain ⟨z, hz, rfl⟩ := Option.map_eq_some_iff.1 hy
      exact Root.purge_avd (hf.2 z (List.mem_of_getElem? hz))
theorem Rel.change (h : Rel X own0 w0 st a w g) (r : Nat) (keep : Bool) {Q : Nat → Prop} (hf : st.free Q) (hq : ∀ s x, Q s → s ≠ r → st.rt[s]? = some x → x = .gone) (x' : Root)
    (hK : Keep X (fun s => s = r ∨ Q s) (fun s => s = r ∧ keep = true) w g (st.purge r keep).rt w' g' ((st.purge r keep).setR r x').rt)
    (hx : RootR X w' ((st.purge r keep).setR r x').rt g' r x') (lt : ∀ b, g'.own b ≠ none → b < w'.heap.size) (ob : ∀ b s, g'.own b = some s → s < st.rt.length) (n0 : w.heap.size ≤ w'.heap.size)
    (pm : ∀ b s, g'.own b = some s → X.n0 ≤ b ∨ (s < X.np ∧ X.po b = some s)) (pv : ∀ s, s < X.np → g'.v s = X.pv s) (fr : Fr own0 w0 w' g') : Rel X own0 w0 ((st.purge r keep).setR r x') a w' g' := by
  refine ⟨h.mem.change r keep hf hq x' hK hx lt ob n0 pm pv, ?_, fun i sv hsv => ?_, h.df, fr⟩
  · show (st.sl.map _).length ≤ _
    rw [List.length_map]; exact h.sz
  · have hsv : (st.sl.map (SV.purge r keep))[i]? = some sv := hsv
    rw [List.getElem?_map] at hsv
    obtain ⟨y, hy, rfl⟩ := Option.map_eq_some_iff.1 hsv
    exact SVR.keep (h.mem.purge r keep) hK (SV.purge_avd (hf.1 y (List.mem_of_getElem? hy))) (SVR.purged h.mem (h.sl i y hy))

theorem Rel.put (h : Rel X own0 w0 st a w g) (d : Option Tmp) {sv : SV} {v : Value} (hs : SVR X w st.rt g sv v) : Rel X own0 w0 (st.put d sv) (a.put d v) w g := by
  cases d with
  | none => exact h
  | some d =>
    refine ⟨⟨h.mem.rt, h.mem.lt, h.mem.ob, h.mem.n0, h.mem.np, h.mem.nl, h.mem.pm, h.mem.pv⟩, ?_, fun i x hx => ?_, h.df, h.fr⟩
    · show (st.sl.set d sv).length ≤ (a.tmps.setIfInBounds d v).size
      rw [List.length_set, Array.size_setIfInBounds]; exact h.sz
    · have hx : (st.sl.set d sv)[i]? = some x := hx
      show SVR X w st.rt g x ((a.tmps.setIfInBounds d v).getD i undef)
      rw [List.getElem?_set] at hx
      by_cases hdi : d = i
      · subst hdi
        simp only [if_true] at hx
        split at hx
        · rename_i hlt
          obtain rfl := Option.some.inj hx
          have : d < a.tmps.size := Nat.lt_of_lt_of_le hlt h.sz
          simp [Array.getD_eq_getD_getElem?, this, hs]
        · cases hx
      · rw [if_neg hdi] at hx
        rw [Array.getD_eq_getD_getElem?, Array.getElem?_setIfInBounds_ne hdi, ← Array.getD_eq_getD_getElem?]
        exact h.sl i x hx
theorem put_rt (st : St) (d : Option Tmp) (sv : SV) : (st.put d sv).rt = st.rt := by cases d <;> rfl
theorem put_np (st : St) (d : Option Tmp) (sv : SV) : (st.put d sv).np = st.np := by cases d <;> rfl

/-! ### Roots that go into something else -/
theorem Keep.same (X : Ctx) (R B : Nat → Prop) (w : World) (g : Gh) (rt rt' : List Root) (row : ∀ (r : Nat) e d xs, ¬ R r → rt[r]? = some (.row e d xs) → rt'[r]? = some (.row e d xs))
    (box : ∀ (r : Nat) t cs, rt[r]? = some (.box t cs) → ∃ cs', rt'[r]? = some (.box t cs')) (base : ∀ r, B r → ∀ e d xs, rt[r]? = some (.row e d xs) → ∃ d' xs', rt'[r]? = some (.row e d' xs')) : Keep X R B w g rt w g rt' :=
  ⟨fun b hb => ⟨hb, rfl⟩, fun b r _ hb => ⟨hb, rfl⟩, fun _ _ _ => rfl, row, fun r t cs h => ⟨rfl, box r t cs h⟩, fun r hr => ⟨rfl, base r hr⟩⟩
theorem Rel.consume1 (h : Rel X own0 w0 st a w g) (r : Nat) (hr : IsRow st.rt r) : Rel X own0 w0 ((st.purge r false).setR r .gone) a w g := by
  obtain ⟨e0, d0, xs0, hr⟩ := hr
  refine h.change r false (Q := fun _ => False) (St.free_false st) (fun _ _ h => h.elim) .gone ?_ trivial h.mem.lt h.mem.ob (Nat.le_refl _) h.mem.pm h.mem.pv h.fr
  refine Keep.same _ _ _ _ _ _ _ (fun s e d xs hs h => ?_) (fun s t cs hb => ?_) (fun s hb => by simp at hb)
  · rw [setR_rt, if_neg (fun he => hs (.inl he.symm))]; exact h
  · rw [setR_rt]
    by_cases he : r = s
    · subst he; rw [purge_rt, hr] at hb; cases hb
    · rw [if_neg he]; exact ⟨cs, hb⟩
theorem consume_free {Q : Nat → Prop} : ∀ (rs : List Nat) {st : St}, st.free Q → (st.consume rs).free (fun s => s ∈ rs ∨ Q s)
  | [], st, h => by
    refine ⟨fun x hx => ?_, fun x hx => ?_⟩
    · have := SV.free_or (SV.free_false x) (h.1 x hx)
      simpa using this
    · have := St.free_or (St.free_false st) h
      simpa using this.2 x hx
  | r :: rs, st, h => by
    have h1 : (st.purge r false).free (fun s => s = r ∨ Q s) := St.free_or St.purge_self (St.purge_free h)
    have h2 : ((st.purge r false).setR r .gone).free (fun s => s = r ∨ Q s) := by
      refine ⟨h1.1, fun x hx => ?_⟩
      rcases List.mem_or_eq_of_mem_set hx with hx | rfl
      · exact h1.2 x hx
      · trivial
    have h3 := consume_free rs h2
    have e : (fun s => s ∈ r :: rs ∨ Q s) = (fun s => s ∈ rs ∨ s = r ∨ Q s) := by
      funext s
      simp only [List.mem_cons, eq_iff_iff]
      constructor
      · rintro ((h | h) | h)
        · exact .inr (.inl h)
        · exact .inl h
        · exact .inr (.inr h)
      · rintro (h | h | h)
        · exact .inl (.inr h)
        · exact .inl (.inl h)
        · exact .inr h
    rw [e]; exact h3
theorem consume_row {s : Nat} {e : TypeId} {d : Bool} {xs : List (List U)} : ∀ (rs : List Nat) {st : St}, s ∉ rs → ((st.consume rs).rt[s]? = some (.row e d xs) ↔ st.rt[s]? = some (.row e d xs))
  | [], st, _ => Iff.rfl
  | r :: rs, st, h => by
    simp only [List.mem_cons, not_or] at h
    refine (consume_row rs (st := (st.purge r false).setR r .gone) h.2).trans ?_
    rw [setR_rt, if_neg (fun he => h.1 he.symm), purge_rt]
    cases hx : st.rt[s]? with
    | none => simp
    | some x => cases x <;> simp [Root.purge]
theorem consume_box {s : Nat} {t : TypeId} : ∀ (rs : List Nat) {st : St} {cs : List Cl}, (∀ r ∈ rs, IsRow st.rt r) → nodupB rs = true → st.rt[s]? = some (.box t cs) → ∃ cs', (st.consume rs).rt[s]? = some (.box t cs')
  | [], st, cs, _, _, h => ⟨cs, h⟩
  | r :: rs, st, cs, hr, hn, h => by
    simp only [nodupB, Bool.and_eq_true, Bool.not_eq_true', List.elem_eq_mem, decide_eq_false_iff_not] at hn
    have hne : r ≠ s := by
      rintro rfl
      obtain ⟨e, d, xs, h'⟩ := hr r (by simp)
      rw [h] at h'; cases h'
    refine consume_box rs (st := (st.purge r false).setR r .gone) (cs := cs.map (Cl.purge r false)) (fun q hq => ?_) hn.2 ?_
    · obtain ⟨e, d, xs, h'⟩ := hr q (by simp [hq])
      refine ⟨e, d, xs, ?_⟩
      rw [setR_rt, if_neg (fun (he : r = q) => hn.1 (he.symm ▸ hq)), purge_rt, h']; rfl
    · rw [setR_rt, if_neg hne, purge_rt, h]; rfl
theorem consume_gone {s : Nat} : ∀ (rs : List Nat) {st : St}, (∀ r ∈ rs, IsRow st.rt r) → nodupB rs = true → s ∈ rs → (st.consume rs).rt[s]? = some .gone
  | r :: rs, st, hr, hn, hs => by
    simp only [nodupB, Bool.and_eq_true, Bool.not_eq_true', List.elem_eq_mem, decide_eq_false_iff_not] at hn
    by_cases he : s = r
    · subst he
      have key : ∀ (qs : List Nat) (st : St), s ∉ qs → st.rt[s]? = some .gone → (st.consume qs).rt[s]? = some .gone := by
        intro qs
        induction qs with
        | nil => exact fun st _ h => h
        | cons q qs ih =>
          intro st hq h
          simp only [List.mem_cons, not_or] at hq
          refine ih _ hq.2 ?_
          rw [setR_rt, if_neg (fun he => hq.1 he.symm), purge_rt, h]; rfl
      refine key rs _ hn.1 ?_
      rw [setR_rt, if_pos rfl]
      obtain ⟨e, d, xs, h'⟩ := hr s (by simp)
      have := lt_of_some h'
      rw [if_pos (by show s < (st.rt.map _).length; rw [List.length_map]; exact this)]
    · refine consume_gone rs (st := (st.purge r false).setR r .gone) (fun q hq => ?_) hn.2 (by simpa [he] using hs)
      obtain ⟨e, d, xs, h'⟩ := hr q (by simp [hq])
      refine ⟨e, d, xs, ?_⟩
      rw [setR_rt, if_neg (fun (he : r = q) => hn.1 (he.symm ▸ hq)), purge_rt, h']; rfl
theorem consume_len : ∀ (rs : List Nat) (st : St), (st.consume rs).rt.length = st.rt.length
  | [], st => rfl
  | r :: rs, st => (consume_len rs _).trans (by show ((st.rt.map _).set r _).length = _; rw [List.length_set, List.length_map])
theorem Rel.consume (rs : List Nat) : ∀ {st : St}, Rel X own0 w0 st a w g → (∀ r ∈ rs, IsRow st.rt r) → nodupB rs = true → Rel X own0 w0 (st.consume rs) a w g := by
  induction rs with
  | nil => exact fun h _ _ => h
  | cons r rs ih =>
    intro st h hr hn
    simp only [nodupB, Bool.and_eq_true, Bool.not_eq_true', List.elem_eq_mem, decide_eq_false_iff_not] at hn
    refine ih (h.consume1 r (hr r (by simp))) (fun q hq => ?_) hn.2
    obtain ⟨e, d, xs, h'⟩ := hr q (by simp [hq])
    refine ⟨e, d, xs, ?_⟩
    rw [setR_rt, if_neg (fun (he : r = q) => hn.1 (he.symm ▸ hq)), purge_rt, h']; rfl

/-! ### A new root -/
theorem add_rt (st : St) (x : Root) (i : Nat) : i < st.rt.length → (st.add x).rt[i]? = st.rt[i]? := fun h => List.getElem?_append_left h
theorem Keep.add (st : St) (x : Root) (hr : ∀ b, okb X w g b → okb X w' g' b ∧ w'.heap[b]? = w.heap[b]?) (ow : ∀ b r, g.own b = some r → g'.own b = some r ∧ w'.heap[b]? = w.heap[b]?)
    (vv : ∀ r, r < st.rt.length → g'.v r = g.v r ∧ g'.b r = g.b r) : Keep X (fun _ => False) (fun _ => False) w g st.rt w' g' (st.add x).rt :=
  ⟨hr, fun b r _ h => ow b r h, fun r h _ => (vv r h).1, fun r e d xs _ h => by rw [add_rt st x r (lt_of_some h)]; exact h, fun r t cs h => ⟨(vv r (lt_of_some h)).2, cs, by rw [add_rt st x r (lt_of_some h)]; exact h⟩, fun _ h => h.elim⟩
theorem Cl.avd_false {rt0 : List Root} (x : Cl) : x.avd (fun _ => False) (fun _ => False) rt0 := by cases x <;> simp [Cl.avd]
theorem SV.avd_false {rt0 : List Root} (y : SV) : y.avd (fun _ => False) (fun _ => False) rt0 := by
  cases y with
  | c x => exact Cl.avd_false x
  | ag xs => exact fun y _ => Cl.avd_false y
  | po => exact fun _ => id
  | fn f caps => intro y _; rcases y with y | _ | _ <;> first | exact Cl.avd_false y | trivial
  | tup vs => exact fun y _ z _ => Cl.avd_false z
  | _ => trivial
theorem Root.avd_false {rt0 : List Root} (y : Root) : y.avd (fun _ => False) (fun _ => False) rt0 := by
  cases y with
  | box t cs => exact fun y _ => Cl.avd_false y
  | _ => trivial
theorem Rel.add (h : Rel X own0 w0 st a w g) (x : Root) (hr : ∀ b, okb X w g b → okb X w' g' b ∧ w'.heap[b]? = w.heap[b]?) (ow : ∀ b r, g.own b = some r → g'.own b = some r ∧ w'.heap[b]? = w.heap[b]?)
    (vv : ∀ r, r < st.rt.length → g'.v r = g.v r ∧ g'.b r = g.b r) (hx : RootR X w' (st.add x).rt g' st.rt.length x) (lt : ∀ b, g'.own b ≠ none → b < w'.heap.size)
    (ob : ∀ b s, g'.own b = some s → s < st.rt.length + 1) (n0 : w.heap.size ≤ w'.heap.size) (pm : ∀ b s, g'.own b = some s → X.n0 ≤ b ∨ (s < X.np ∧ X.po b = some s)) (fr : Fr own0 w0 w' g') : Rel X own0 w0 (st.add x) a w' g' := by
  have hK := Keep.add (X := X) st x hr ow vv
  have hl : (st.add x).rt.length = st.rt.length + 1 := by show (st.rt ++ [x]).length = _; simp
  refine ⟨⟨fun i y hy => ?_, lt, fun b s hb => by rw [hl]; exact ob b s hb, Nat.le_trans h.mem.n0 n0, h.mem.np, by rw [hl]; exact Nat.le_succ_of_le h.mem.nl, pm, fun s hs => ?_⟩, h.sz, fun i sv hsv => SVR.keep h.mem hK (SV.avd_false sv) (h.sl i sv hsv), h.df, fr⟩
  · by_cases hi : i < st.rt.length
    · rw [add_rt st x i hi] at hy
      exact RootR.keep h.mem hK hy (fun h => h) (Root.avd_false y)
    · have hlt := lt_of_some hy
      rw [hl] at hlt
      obtain rfl : i = st.rt.length := by omega
      have : (st.rt ++ [x])[st.rt.length]? = some x := by simp
      obtain rfl := Option.some.inj (this.symm.trans hy)
      exact hx
  · rw [(vv s (Nat.lt_of_lt_of_le hs h.mem.nl)).1]; exact h.mem.pv s hs
end

/-! ### What the tables say of the program -/
def zeroV : CT → Value | .int k => .int k 0 | .bool => .bool false | .str => .string ByteArray.empty | .slc _ => .slice none 0 0
def TRow.zero (r : TRow) : Value := match r.d with
  | .one c => zeroV c
  | _ => .agg (r.cts.map zeroV).toArray
def descOk : TD → TypeDesc → Prop
  | .one (.int k), .int k' => k = k' | .one .bool, .bool => True | .one .str, .string => True | .one (.slc e), .slice e' => e = e'
  | .st fs, .struct fields => fields.toList.map (fun f => (f.type, f.offset)) = fs
  | .arr n e, .array n' e' => n = n' ∧ e = e'
  | _, _ => False
structure TabOk (P : Program) (T : Tabs) : Prop where
  ok : ∀ t, (T.row t).d.known = true → ∃ i desc, P.info? t = some i ∧ P.underlying t = some desc ∧ i.size = T.size t ∧ i.bytes = (T.row t).bytes ∧ i.zero = some (T.row t).zero ∧ descOk (T.row t).d desc
  one : ∀ t c, (T.row t).d = .one c → T.ct t = [c]
end Go.Proofs.Ytlblehdenhpijaa.Eng
