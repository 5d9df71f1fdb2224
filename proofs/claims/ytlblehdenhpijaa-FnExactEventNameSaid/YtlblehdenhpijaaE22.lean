/- The evaluator, part 22: a function's end. Of no program. -/
import Derived.Test.YtlblehdenhpijaaE21
namespace Go.Proofs.Ytlblehdenhpijaa.Eng
open Go.RowKit
set_option linter.unusedVariables false

section
variable {P : Program} {X : Ctx} {own0 : Nat → Option Nat} {w0 : World} {st : St} {a : Act} {w w' : World} {g g' : Gh} {R : Type}

/-- One result, as the machine takes it. -/
def takeRes (tmps : Array Value) : ResultVar → Sem Value
  | .tmp t => pure (tmps.getD t undef)
  | .cell x t => do loadVar t (← asAddr (tmps.getD x undef))
theorem resultCls_spec (hT : TabOk P X.T) (h : Rel X own0 w0 st a w g) {t : TypeId} {rv : ResultVar} {cs : List Cl} (hq : resultCls X.T st t rv = some cs) :
    ∃ v, (takeRes a.tmps rv).run P w = .ok v w ∧ ((X.T.agg t = true ∧ ∃ vs : Array Value, v = .agg vs ∧ ClsR X w st.rt g cs vs.toList) ∨ (X.T.agg t = false ∧ ClsR X w st.rt g cs [v])) := by
  have hget : ∀ x, SVR X w st.rt g (st.sl.getD x .no) (a.tmps.getD x undef) := fun x => ev_sound h (.tmp x)
  cases rv with
  | tmp x =>
    refine ⟨_, rfl, ?_⟩
    have hx := hget x
    simp only [resultCls] at hq
    generalize st.sl.getD x .no = sv at hx hq
    cases sv with
    | c c =>
      cases ha : X.T.agg t with
      | true => rw [ha] at hq; cases c <;> cases hq
      | false =>
        rw [ha] at hq
        refine .inr ⟨rfl, ?_⟩
        cases c <;> cases hq <;> exact ⟨hx, trivial⟩
    | ag xs =>
      cases ha : X.T.agg t with
      | false => rw [ha] at hq; cases hq
      | true =>
        rw [ha] at hq
        cases hq
        obtain ⟨vs, h1, h2⟩ := hx
        exact .inl ⟨rfl, vs, h1, h2⟩
    | _ => cases hq
  | cell x t' =>
    have hx := hget x
    simp only [resultCls] at hq
    generalize st.sl.getD x .no = sv at hx hq
    split at hq <;> try (cases hq; done)
    rename_i r
    split at hq <;> try (cases hq; done)
    rename_i t2 cs2 hr
    split at hq
    · rename_i hh
      obtain ⟨rfl, ht, hl⟩ := hh
      cases hq
      obtain ⟨vs, h1, h2, h3⟩ := h.mem.rt r _ hr
      have h4 := run_loadAt (w := w) hT ht (b := g.b r) (o := 0) (cs := vs.toList) (by rw [← h3.length]; exact hl) (fun j v hv => by rw [Nat.zero_add, heap_cell h1]; simpa using hv)
      refine ⟨packV (X.T.agg t') vs.toList, ?_, ?_⟩
      · have h5 : (loadVar t' ⟨g.b r, 0, none⟩).run P w = .ok (packV (X.T.agg t') vs.toList) w := by
          simpa [Instr.loadAt, Instr.sureAddr] using h4
        simp [takeRes, hx.1, asAddr, h5]
      · cases ha : X.T.agg t' with
        | true => exact .inl ⟨rfl, vs, by simp [packV], h3⟩
        | false =>
          have h6 := size_one hT ht ha
          rw [h6] at hl
          have h7 := h3.length
          rw [hl] at h7
          refine .inr ⟨rfl, ?_⟩
          match hv : vs.toList, h7 with
          | [v], _ => rw [hv] at h3; simpa [packV] using h3
    · cases hq
/-- All results: as they leave, as they come. -/
structure OutsOk (X : Ctx) (st : St) (w : World) (g : Gh) (ro : Prop) (vs : List Value) (rs : List (Option Nat)) (n : Nat) (z : List (Bool × List Cl) × List Root) : Prop where
  left : Lefts st.rt rs z.2
  np : ∀ r, some r ∈ rs → X.np ≤ r
  tup : ∀ (rt' : List Root) (g' : Gh), (∀ b, okb X w g b → okb X w g' b) → (ro → ∀ b s, g.own b = some s → X.np ≤ s → okb X w g' b) → (∀ (k r : Nat), rs[k]? = some (some r) → g'.v (n + k) = g.v r) →
    (∀ (k : Nat), rs[k]? = some none → g'.v (n + k) = .slice none 0 0) → (∀ (k : Nat) x, z.2[k]? = some x → rt'[n + k]? = some x) → TupR X w rt' g' z.1 vs
theorem resCells_len (md : RM) : ∀ (cts : List CT) (us : List U) (i n : Nat), (resCells md cts us i n).1.length = cts.length
  | [], us, i, n => rfl
  | c :: ts, us, i, n => by
    cases c <;> cases md <;> simp [resCells, resCells_len]
theorem outAll_spec (hT : TabOk P X.T) (h : Rel X own0 w0 st a w g) : ∀ {rms : List RM} {ts : List TypeId} {rvs : List ResultVar} {res : List (List U)} {rs : List (Option Nat)}, outAll X.T st X.np rms ts rvs = some (res, rs) → (∀ t ∈ ts, (X.T.row t).d.known = true) →
    ∃ vs : List Value, (rvs.mapM (takeRes a.tmps)).run P w = .ok vs w ∧ vs.length = ts.length ∧ ∀ (all : List (List U)) (i n : Nat), (∀ (k : Nat) u, res[k]? = some u → all[i + k]? = some u) → OutsOk X st w g (.ro ∈ rms) vs rs n (results1 X.T rms ts all i n)
  | rms, [], [], res, rs, hq, _ => by
    have hq : some ([], []) = some (res, rs) := by
      unfold outAll at hq; exact hq
    cases hq
    refine ⟨[], rfl, rfl, fun all i n _ => ?_⟩
    have : results1 X.T rms [] all i n = ([], []) := by unfold results1; rfl
    rw [this]
    exact ⟨trivial, fun r hr => by simp at hr, fun _ _ _ _ _ _ _ => trivial⟩
  | rms, t :: ts, rv :: rvs, res, rs, hq, hk => by
    unfold outAll at hq
    split at hq
    · rename_i cs hcs
      split at hq
      · rename_i y z hy hz
        obtain ⟨us, ra⟩ := y
        obtain ⟨res', rb⟩ := z
        obtain ⟨h10, h11⟩ := Prod.mk.inj (Option.some.inj hq)
        dsimp only at h10 h11
        subst h10 h11
        obtain ⟨v, h1, h2⟩ := resultCls_spec (P := P) hT h hcs
        obtain ⟨vs, h3, h4, h5⟩ := outAll_spec hT h hz fun t' ht' => hk t' (by simp [ht'])
        refine ⟨v :: vs, by simp [h1, h3], by simp [h4], fun all i n hall => ?_⟩
        have hu : all.getD i [] = us := getD_of_some (by have := hall 0 us rfl; rwa [Nat.add_zero] at this)
        have hall' : ∀ (k : Nat) u, res'[k]? = some u → all[i + 1 + k]? = some u := fun k u hk => by
          have := hall (k + 1) u (by simpa using hk)
          rwa [show i + (k + 1) = i + 1 + k from by omega] at this
        -- the first one's cells
        have hcells : ∃ vl : List Value, ClsR X w st.rt g cs vl ∧ (X.T.agg t = true → ∃ va : Array Value, v = .agg va ∧ va.toList = vl) ∧ (X.T.agg t = false → vl = [v]) := by
          rcases h2 with ⟨ha, va, rfl, hc⟩ | ⟨ha, hc⟩
          · exact ⟨va.toList, hc, fun _ => ⟨va, rfl, rfl⟩, fun hf => (by rw [ha] at hf; cases hf)⟩
          · exact ⟨[v], hc, fun hf => (by rw [ha] at hf; cases hf), fun _ => rfl⟩
        obtain ⟨vl, hc, hagg, hone⟩ := hcells
        have hA := outCls_spec h hy hc us 0 n (fun k u hk => by rw [Nat.zero_add]; exact hk)
        have hlen := hA.left.length
        have hB := h5 all (i + 1) (n + (resCells (rms.headD .own) (X.T.ct t) us 0 n).2.length) hall'
        have e1 : results1 X.T rms (t :: ts) all i n = ((X.T.agg t, (resCells (rms.headD .own) (X.T.ct t) us 0 n).1) :: (results1 X.T rms.tail ts all (i + 1) (n + (resCells (rms.headD .own) (X.T.ct t) us 0 n).2.length)).1,
            (resCells (rms.headD .own) (X.T.ct t) us 0 n).2 ++ (results1 X.T rms.tail ts all (i + 1) (n + (resCells (rms.headD .own) (X.T.ct t) us 0 n).2.length)).2) := by
          conv => lhs; unfold results1
          rw [hu]
        rw [e1]
        refine ⟨hA.left.append hB.left, fun r hr => ?_, fun rt' g' q1 q2 q3 q4 q5 => ?_⟩
        · rcases List.mem_append.1 hr with hr | hr
          · exact hA.np r hr
          · exact hB.np r hr
        · have hro1 : rms.headD .own = .ro → RM.ro ∈ rms := fun he => by
            cases rms with
            | nil => cases he
            | cons m ms => simp at he; simp [he]
          have hro2 : RM.ro ∈ rms.tail → RM.ro ∈ rms := fun he => List.mem_of_mem_tail he
          have c1 := hA.cls rt' g' q1 (fun he => q2 (hro1 he)) (fun k r hk => q3 k r (by rw [List.getElem?_append_left (lt_of_some hk)]; exact hk)) (fun k hk => q4 k (by rw [List.getElem?_append_left (lt_of_some hk)]; exact hk)) (fun k x hk => q5 k x (by rw [List.getElem?_append_left (lt_of_some hk)]; exact hk))
          have c2 := hB.tup rt' g' q1 (fun he => q2 (hro2 he)) (fun k r hk => by
              have := q3 ((resCells (rms.headD .own) (X.T.ct t) us 0 n).2.length + k) r (by rw [← hlen, List.getElem?_append_right (by omega)]; simpa using hk)
              rwa [← Nat.add_assoc] at this) (fun k hk => by
              have := q4 ((resCells (rms.headD .own) (X.T.ct t) us 0 n).2.length + k) (by rw [← hlen, List.getElem?_append_right (by omega)]; simpa using hk)
              rwa [← Nat.add_assoc] at this) (fun k x hk => by
              have := q5 ((resCells (rms.headD .own) (X.T.ct t) us 0 n).2.length + k) x (by rw [List.getElem?_append_right (by omega)]; simpa using hk)
              rwa [← Nat.add_assoc] at this)
          cases ha : X.T.agg t with
          | true =>
            obtain ⟨va, hv, hva⟩ := hagg ha
            exact ⟨⟨va, hv, by rw [hva]; exact c1⟩, c2⟩
          | false =>
            rw [hone ha] at c1
            have hl1 := resCells_len (rms.headD .own) (X.T.ct t) us 0 n
            have hs1 : (X.T.ct t).length = 1 := size_one hT (hk t (by simp)) ha
            rw [hs1] at hl1
            match hz : (resCells (rms.headD .own) (X.T.ct t) us 0 n).1, hl1 with
            | [c], _ => rw [hz] at c1; exact ⟨c1.1, c2⟩
      · cases hq
    · cases hq
  | _, [], _ :: _, _, _, hq, _ => by simp [outAll] at hq
  | _, _ :: _, [], _, _, hq, _ => by simp [outAll] at hq
end
end Go.Proofs.Ytlblehdenhpijaa.Eng
