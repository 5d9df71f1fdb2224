/- The evaluator, part 31: regions whose order is drawn. Of no program. -/
import Derived.Test.YtlblehdenhpijaaE30
import Derived.Orders
namespace Go.Proofs.Ytlblehdenhpijaa.Eng
open Go.RowKit
set_option linter.unusedVariables false
set_option linter.unusedSimpArgs false

section
variable {R : Type}
theorem capsOf_congr {ρ ρ' : Operand → SV} : ∀ {xs : List Operand}, (∀ x ∈ xs, ρ x = ρ' x) → capsOf ρ xs = capsOf ρ' xs
  | [], _ => rfl
  | x :: xs, h => by unfold capsOf; rw [h x (by simp), capsOf_congr fun y hy => h y (by simp [hy])]
theorem buildCells_congr {place : Nat → Option (Nat × Nat)} {ρ ρ' : Operand → SV} : ∀ {ps : List (Nat × Operand)} {cs : List Cl}, (∀ x ∈ ps, ρ x.2 = ρ' x.2) → buildCells place ρ cs ps = buildCells place ρ' cs ps
  | [], cs, _ => rfl
  | (i, x) :: ps, cs, h => by
    have e : ρ x = ρ' x := h (i, x) (by simp)
    have ih : ∀ cs, buildCells place ρ cs ps = buildCells place ρ' cs ps := fun cs => buildCells_congr fun y hy => h y (List.mem_cons_of_mem _ hy)
    simp only [buildCells, e, ih]
theorem buildK_congr {T : Tabs} {ρ ρ' : Operand → SV} {t : TypeId} {ps : List (Nat × Operand)} {K : SV → Option R} (h : ∀ x ∈ ps, ρ x.2 = ρ' x.2) : buildK T ρ t ps K = buildK T ρ' t ps K := by
  unfold buildK
  split
  · split
    · rw [buildCells_congr h]
    · rfl
  · split
    · rw [buildCells_congr h]
    · rfl
  · rfl
theorem qK_congr {T : Tabs} {eqT : TypeId → Bool} {rt : List Root} {ρ ρ' : Operand → SV} {op : Op} {K : SV → Option R} (h : ∀ x ∈ op.operands.toList, ρ x = ρ' x) : qK T eqT rt ρ op K = qK T eqT rt ρ' op K := by
  cases op <;> simp only [qK] <;> try (first | rfl | (rw [h _ (by simp [Op.operands])]; done))
  case pick c a b => rw [h c (by simp [Op.operands]), h a (by simp [Op.operands]), h b (by simp [Op.operands])]
  case binOp op t x y t2 => rw [h x (by simp [Op.operands]), h y (by simp [Op.operands])]
  case indexAddr t x y => rw [h x (by simp [Op.operands]), h y (by simp [Op.operands])]
  case index t x y => rw [h x (by simp [Op.operands]), h y (by simp [Op.operands])]
  case unOp u t x => cases u <;> simp only [qK] <;> rw [h x (by simp [Op.operands])]
  case makeFunc fn first caps =>
    cases fn <;> simp only [qK]
    rw [capsOf_congr fun x hx => h x (by simp only [Op.operands, Array.toList_append]; exact List.mem_append_right _ hx)]
  case slice t x lo hi mx =>
    have hx := h x (by simp [Op.operands])
    have hl : lo.map ρ = lo.map ρ' := by
      cases lo with
      | none => rfl
      | some l => simp only [Option.map_some]; rw [h l (by simp [Op.operands])]
    have hh : hi.map ρ = hi.map ρ' := by
      cases hi with
      | none => rfl
      | some l => simp only [Option.map_some]; rw [h l (by simp [Op.operands])]
    cases mx <;> simp only [qK] <;> rw [hx, hl, hh]
  case call c =>
    have ha : ∀ x ∈ c.args.toList, ρ x = ρ' x := fun x hx => h x (by
      show x ∈ (c.operands).toList
      unfold Call.operands
      rw [Array.toList_append]
      exact List.mem_append_right _ hx)
    generalize c.args.toList = args at ha
    split
    · rename_i t _ _ _
      rw [ha t (by simp)]
    · rename_i x y _
      rw [ha x (by simp), ha y (by simp)]
    · rename_i x y _
      rw [ha x (by simp), ha y (by simp)]
    · rfl
/-- Whether an operation is carried out, as far as it is known. -/
def wantS (ops : List Oper) (o : Oper) (st : St) : Option Bool :=
  match o.guard with
  | none => some true
  | some (j, want) => match (ops[j]?).bind (·.dst) with
    | none => none
    | some t => match st.sl.getD t .no with | .c (.bool b) => some (b == want) | .ud => some false | _ => none
theorem set_same {l : List SV} {t : Nat} {x : SV} (h : l.getD t .no = x) (hx : x ≠ .no) : l.set t x = l := by
  apply List.ext_getElem?
  intro i
  rw [List.getElem?_set]
  split
  · rename_i hi; subst hi
    rw [List.getD_eq_getElem?_getD] at h
    cases hl : l[t]? with
    | none => rw [hl] at h; exact absurd h.symm hx
    | some y =>
      rw [hl] at h
      rw [if_pos (lt_of_some hl), ← h]; rfl
  · rfl
theorem wantedK_eq {ops : List Oper} {o : Oper} {st : St} {yes no : St → Option R} : wantedK ops o st yes no = match wantS ops o st with | some true => yes st | some false => no st | none => none := by
  unfold wantedK wantS
  cases hg : o.guard with
  | none => rfl
  | some jw =>
    obtain ⟨j, want⟩ := jw
    simp only
    cases ht : (ops[j]?).bind (·.dst) with
    | none => rfl
    | some t =>
      simp only
      generalize hb : st.sl.getD t .no = sv
      cases sv with
      | c x =>
        cases x with
        | bool b =>
          have hst : ∀ b', b = b' → ({ st with sl := st.sl.set t (.c (.bool b')) } : St) = st := fun b' e => by subst e; rw [set_same hb (by simp)]
          cases b <;> cases want <;> simp only [cond_true, cond_false, if_true, Bool.false_eq_true, if_false, hst _ rfl] <;> rfl
        | _ => rfl
      | _ => rfl
/-- What the operations of a region give, one after another. -/
def RunD (E : Env) (ops : List Oper) : List Oper → St → List (Option Tmp × SV) → St → Prop
  | [], st, es, st' => es = [] ∧ st' = st
  | o :: os, st, es, st' => ∃ v es', es = (o.dst, v) :: es' ∧ ((wantS ops o st = some true ∧ opD E o st some = some v) ∨ (wantS ops o st = some false ∧ v = .ud)) ∧ RunD E ops os (st.put o.dst v) es' st'
theorem runD_spec {E : Env} {ops : List Oper} {K : St → Option R} {r : R} : ∀ {os : List Oper} {st : St}, runD E ops os st K = some r → ∃ es st', RunD E ops os st es st' ∧ K st' = some r
  | [], st, h => ⟨[], st, ⟨rfl, rfl⟩, h⟩
  | o :: os, st, h => by
    unfold runD at h
    rw [wantedK_eq] at h
    split at h
    · rename_i hw
      rw [opD_bind] at h
      obtain ⟨v, h1, h2⟩ := Option.bind_eq_some_iff.1 h
      rw [fSt_eq] at h2
      obtain ⟨es, st', h3, h4⟩ := runD_spec h2
      exact ⟨_, st', ⟨v, es, rfl, .inl ⟨hw, h1⟩, h3⟩, h4⟩
    · rename_i hw
      rw [fSt_eq] at h
      obtain ⟨es, st', h3, h4⟩ := runD_spec h
      exact ⟨_, st', ⟨.ud, es, rfl, .inr ⟨hw, rfl⟩, h3⟩, h4⟩
    · cases h
/-- The slots when the operations of L have been carried out. -/
def putS (sl : List SV) (d : Option Tmp) (v : SV) : List SV := match d with | some d => sl.set d v | none => sl
def apL (L : Nat → Bool) : List (Option Tmp × SV) → Nat → List SV → List SV
  | [], _, sl => sl
  | (d, v) :: es, k, sl => apL L es (k + 1) (if L k then putS sl d v else sl)
def lk (L : Nat → Bool) (t : Tmp) : List (Option Tmp × SV) → Nat → Option SV
  | [], _ => none
  | (d, v) :: es, k => match lk L t es (k + 1) with
    | some x => some x
    | none => if L k = true ∧ d = some t then some v else none
theorem apL_cons (L : Nat → Bool) (d : Option Tmp) (v : SV) (es : List (Option Tmp × SV)) (k : Nat) (sl : List SV) : apL L ((d, v) :: es) k sl = apL L es (k + 1) (if L k then putS sl d v else sl) := rfl
theorem lk_cons (L : Nat → Bool) (t : Tmp) (d : Option Tmp) (v : SV) (es : List (Option Tmp × SV)) (k : Nat) : lk L t ((d, v) :: es) k = match lk L t es (k + 1) with
    | some x => some x
    | none => if L k = true ∧ d = some t then some v else none := rfl
theorem putS_get (sl : List SV) (d : Option Tmp) (v : SV) (t : Nat) : (putS sl d v)[t]? = (sl[t]?).map fun x => if d = some t then v else x := by
  cases d with
  | none => simp [putS]
  | some d =>
    show (sl.set d v)[t]? = _
    rw [List.getElem?_set]
    by_cases h : d = t
    · subst h
      rw [if_pos rfl]
      cases hs : sl[d]? with
      | none => rw [if_neg (by simpa using hs)]; rfl
      | some x => rw [if_pos (lt_of_some hs)]; simp
    · rw [if_neg h]
      have : ¬ (some d = some t) := fun hh => h (Option.some.inj hh)
      simp [h]
theorem apL_get (L : Nat → Bool) (t : Nat) : ∀ (es : List (Option Tmp × SV)) (k : Nat) (sl : List SV), (apL L es k sl)[t]? = (sl[t]?).map fun x => (lk L t es k).getD x
  | [], k, sl => by simp [apL, lk]
  | (d, v) :: es, k, sl => by
    unfold apL lk
    rw [apL_get L t es (k + 1)]
    cases h : lk L t es (k + 1) with
    | some x =>
      split
      · rw [putS_get, Option.map_map]; rfl
      · rfl
    | none =>
      split
      · rename_i hL
        rw [putS_get, Option.map_map]
        congr 1
        funext x
        simp only [Function.comp_apply, Option.getD_none, hL, true_and]
        split <;> rfl
      · rename_i hL
        simp [hL]
theorem lk_congr {L L' : Nat → Bool} {t : Tmp} : ∀ (es : List (Option Tmp × SV)) (k : Nat), (∀ (j : Nat) v, es[j]? = some (some t, v) → L (k + j) = L' (k + j)) → lk L t es k = lk L' t es k
  | [], k, h => rfl
  | (d, v) :: es, k, h => by
    rw [lk_cons, lk_cons, lk_congr (L := L) (L' := L') es (k + 1) fun j v hj => by rw [show k + 1 + j = k + (j + 1) from by omega]; exact h (j + 1) v (by simpa using hj)]
    cases lk L' t es (k + 1) with
    | some x => rfl
    | none =>
      by_cases hd : d = some t
      · subst hd
        have h0 := h 0 v rfl
        rw [Nat.add_zero] at h0
        simp only [h0]
      · simp only [hd, and_false]
theorem lk_last {L : Nat → Bool} {t : Tmp} {v : SV} : ∀ (es : List (Option Tmp × SV)) (k i : Nat), es[i]? = some (some t, v) → L (k + i) = true → (∀ (j : Nat) u, i < j → es[j]? = some (some t, u) → L (k + j) = false) → lk L t es k = some v
  | [], k, i, h, _, _ => by simp at h
  | (d, u) :: es, k, 0, h, hL, hl => by
    simp at h
    obtain ⟨rfl, rfl⟩ := h
    rw [lk_cons]
    have : lk L t es (k + 1) = none := by
      have h1 : lk L t es (k + 1) = lk (fun _ => false) t es (k + 1) := lk_congr es (k + 1) fun j v hj => by
        rw [show k + 1 + j = k + (j + 1) from by omega]; exact hl (j + 1) v (by omega) (by simpa using hj)
      rw [h1]
      clear h1 hl hL
      generalize k + 1 = m
      induction es generalizing m with
      | nil => rfl
      | cons e es ih => obtain ⟨d, x⟩ := e; rw [lk_cons, ih]; simp
    rw [this]
    exact if_pos ⟨hL, rfl⟩
  | (d, u) :: es, k, i + 1, h, hL, hl => by
    rw [lk_cons, lk_last es (k + 1) i (by simpa using h) (by rw [show k + 1 + i = k + (i + 1) from by omega]; exact hL) fun j u hj hu => by
      rw [show k + 1 + j = k + (j + 1) from by omega]; exact hl (j + 1) u (by omega) (by simpa using hu)]
theorem apL_false (es : List (Option Tmp × SV)) : ∀ (k : Nat) (sl : List SV), apL (fun _ => false) es k sl = sl := by
  induction es with
  | nil => exact fun _ _ => rfl
  | cons e es ih => obtain ⟨d, v⟩ := e; intro k sl; unfold apL; rw [if_neg (by simp)]; exact ih _ _
theorem apL_shift {L : Nat → Bool} : ∀ (es : List (Option Tmp × SV)) (k : Nat) (sl : List SV), apL L es (k + 1) sl = apL (fun j => L (j + 1)) es k sl
  | [], k, sl => rfl
  | (d, v) :: es, k, sl => by unfold apL; exact apL_shift es (k + 1) _
theorem put_putS (st : St) (d : Option Tmp) (v : SV) : st.put d v = ⟨putS st.sl d v, st.rt, st.np⟩ := by cases d <;> rfl
theorem RunD_len {E : Env} {ops : List Oper} : ∀ {os : List Oper} {st st' : St} {es : List (Option Tmp × SV)}, RunD E ops os st es st' → es.length = os.length ∧ st' = ⟨apL (fun _ => true) es 0 st.sl, st.rt, st.np⟩
  | [], st, st', es, h => by obtain ⟨rfl, rfl⟩ := h; exact ⟨rfl, rfl⟩
  | o :: os, st, st', es, h => by
    obtain ⟨v, es', rfl, _, h⟩ := h
    obtain ⟨h1, h2⟩ := RunD_len h
    refine ⟨by simp [h1], ?_⟩
    rw [h2, put_putS, apL_cons, if_pos rfl, apL_shift]
theorem RunD_at {E : Env} {ops : List Oper} : ∀ {os : List Oper} {st st' : St} {es : List (Option Tmp × SV)}, RunD E ops os st es st' → ∀ {i : Nat} {o : Oper}, os[i]? = some o → ∃ v, es[i]? = some (o.dst, v) ∧
    ((wantS ops o ⟨apL (fun j => decide (j < i)) es 0 st.sl, st.rt, st.np⟩ = some true ∧ opD E o ⟨apL (fun j => decide (j < i)) es 0 st.sl, st.rt, st.np⟩ some = some v) ∨ (wantS ops o ⟨apL (fun j => decide (j < i)) es 0 st.sl, st.rt, st.np⟩ = some false ∧ v = .ud))
  | [], st, st', es, h, i, o, ho => by simp at ho
  | o' :: os, st, st', es, h, 0, o, ho => by
    simp at ho; subst ho
    obtain ⟨v, es', rfl, h1, _⟩ := h
    refine ⟨v, rfl, ?_⟩
    have e : apL (fun j => decide (j < 0)) ((o'.dst, v) :: es') 0 st.sl = st.sl := by
      rw [show (fun j : Nat => decide (j < 0)) = (fun _ => false) from funext fun j => by simp]
      exact apL_false _ _ _
    rw [e]; exact h1
  | o' :: os, st, st', es, h, i + 1, o, ho => by
    obtain ⟨v, es', rfl, _, h2⟩ := h
    obtain ⟨u, h3, h4⟩ := RunD_at h2 (i := i) (o := o) (by simpa using ho)
    refine ⟨u, by simpa using h3, ?_⟩
    have e : apL (fun j => decide (j < i + 1)) ((o'.dst, v) :: es') 0 st.sl = apL (fun j => decide (j < i)) es' 0 (putS st.sl o'.dst v) := by
      rw [apL_cons, if_pos (by simp), apL_shift]
      congr 1
      funext j
      simp
    rw [e]
    rw [put_putS] at h4
    exact h4
/-- Where it looks, two states agree. -/
theorem ev_congr {st st' : St} {x : Operand} (h : ∀ t, x = .tmp t → st.sl.getD t .no = st'.sl.getD t .no) : ev st x = ev st' x := by
  cases x with
  | tmp t => exact h t rfl
  | _ => rfl
theorem opD_congr {E : Env} {o : Oper} {sl sl' : List SV} {rt : List Root} {np : Nat} {K : SV → Option R} (h : ∀ t, Operand.tmp t ∈ o.op.operands.toList → sl.getD t .no = sl'.getD t .no) : opD E o ⟨sl, rt, np⟩ K = opD E o ⟨sl', rt, np⟩ K := by
  have hev : ∀ x ∈ o.op.operands.toList, ev ⟨sl, rt, np⟩ x = ev ⟨sl', rt, np⟩ x := fun x hx => ev_congr fun t ht => h t (ht ▸ hx)
  have hq := qK_congr (T := E.T) (eqT := E.eqT) (rt := rt) (K := K) hev
  unfold opD
  split
  · rename_i t parts ho
    rw [ho] at hev
    exact buildK_congr fun x hx => hev x.2 (by
      show x.2 ∈ ((parts.toList.map (·.2)).toArray).toList
      exact List.mem_map.2 ⟨x, hx, rfl⟩)
  · rename_i c ho
    rw [ho] at hev
    have ha : ∀ x ∈ c.args.toList, ev ⟨sl, rt, np⟩ x = ev ⟨sl', rt, np⟩ x := fun x hx => hev x (by
      show x ∈ (c.operands).toList
      unfold Call.operands
      rw [Array.toList_append]
      exact List.mem_append_right _ hx)
    cases hc : c.callee with
    | value f =>
      have hf : ev ⟨sl, rt, np⟩ f = ev ⟨sl', rt, np⟩ f := hev f (by
        show f ∈ (c.operands).toList
        unfold Call.operands
        rw [hc, Array.toList_append]
        exact List.mem_append_left _ (by simp))
      have : c.args.toList.map (ev ⟨sl, rt, np⟩) = c.args.toList.map (ev ⟨sl', rt, np⟩) := List.map_congr_left ha
      simp only [hf, this]
      rfl
    | _ => exact hq
  · exact hq
theorem wantS_congr {ops : List Oper} {o : Oper} {sl sl' : List SV} {rt : List Root} {np : Nat} (h : ∀ t, t ∈ looks ops o → sl.getD t .no = sl'.getD t .no) : wantS ops o ⟨sl, rt, np⟩ = wantS ops o ⟨sl', rt, np⟩ := by
  unfold wantS
  split
  · rfl
  · rename_i j want hg
    split
    · rfl
    · rename_i t ht
      have : sl.getD t .no = sl'.getD t .no := h t (by
        unfold looks
        rw [hg]
        exact List.mem_append_right _ (by simp only; rw [ht]; simp))
      show (match sl.getD t .no with | .c (.bool b) => some (b == want) | .ud => some false | _ => none) = _
      rw [this]
theorem looks_of {ops : List Oper} {o : Oper} {t : Tmp} (h : Operand.tmp t ∈ o.op.operands.toList) : t ∈ looks ops o :=
  List.mem_append_left _ (List.mem_filterMap.2 ⟨_, h, rfl⟩)
end
end Go.Proofs.Ytlblehdenhpijaa.Eng
