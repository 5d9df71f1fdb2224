/- The evaluator, part 28: a call. Of no program. -/
import Derived.Test.YtlblehdenhpijaaE27
namespace Go.Proofs.Ytlblehdenhpijaa.Eng
open Go.RowKit
set_option linter.unusedVariables false

/-- What is told of every function holds of it. -/
def Sound (P : Program) (T : Tabs) (sig : FuncId → Sig) (den : Den) : Prop :=
  ∀ (f : FuncId) (svs : List SV) (rts : List Root) (ret : Ret), den f svs rts = some ret →
    ∃ fn, P.funcs[f]? = some fn ∧ fn.body.isNone = false ∧ ((∀ t ∈ fn.resultTypes.toList, (T.row t).d.known = true) →
      ∀ (X : Ctx) (w : World) (g : Gh) (args : Array Value), X.T = T → X.n0 = w.heap.size → Mem X ⟨svs, rts, rts.length⟩ w g → SvsR X w rts g svs args.toList →
        Calls P f args w fun e w' => ∃ v, e = .returned v ∧ Post X g.own w (sig f) fn.resultTypes.toList (rootTypes rts) ret v w')

/-! ### Results under other numbers -/
def shC (b : Bool) (n n' : Nat) : Cl → Cl
  | .al r p e => if n ≤ r then .al (r - n + n') p e else .no
  | .rd e xs => if b then .rd e xs else .no
  | x => x
def SV.mapC (f : Cl → Cl) : SV → SV
  | .c x => .c (f x) | .ag xs => .ag (xs.map f) | .tup vs => .tup (vs.map fun x => (x.1, x.2.map f)) | _ => .no
theorem shC_ofU {b : Bool} {n n' : Nat} {t : CT} {u : U} (h : t.isSlc = false) : shC b n n' (Cl.ofU t u) = Cl.ofU t u := by
  cases t <;> first | rfl | cases h
theorem resCells_sh {b : Bool} {md : RM} (hb : b = true ∨ md = .own) (n n' : Nat) : ∀ (ts : List CT) (us : List U) (i d : Nat),
    resCells md ts us i (n' + d) = ((resCells md ts us i (n + d)).1.map (shC b n n'), (resCells md ts us i (n + d)).2)
  | [], us, i, d => by simp [resCells]
  | .slc e :: ts, us, i, d => by
    have h1 := resCells_sh hb n n' ts us (i + 1) d
    have h2 := resCells_sh hb n n' ts us (i + 1) (d + 1)
    have h3 : shC b n n' (.al (n + d) [] e) = .al (n' + d) [] e := by
      show (if n ≤ n + d then _ else _) = _
      rw [if_pos (by omega), show n + d - n + n' = n' + d from by omega]
    cases md with
    | ro =>
      have hb : b = true := hb.resolve_right (by decide)
      subst hb
      simp only [resCells, h1, List.map_cons]; rfl
    | own => simp only [resCells, Nat.add_assoc, h2, List.map_cons, h3]
    | shal => simp only [resCells, Nat.add_assoc, h2, List.map_cons, h3]
  | .int k :: ts, us, i, d => by simp only [resCells, resCells_sh hb n n' ts us (i + 1) d, List.map_cons, shC_ofU (b := b) (n := n) (n' := n') (t := .int k) rfl]
  | .bool :: ts, us, i, d => by simp only [resCells, resCells_sh hb n n' ts us (i + 1) d, List.map_cons, shC_ofU (b := b) (n := n) (n' := n') (t := .bool) rfl]
  | .str :: ts, us, i, d => by simp only [resCells, resCells_sh hb n n' ts us (i + 1) d, List.map_cons, shC_ofU (b := b) (n := n) (n' := n') (t := .str) rfl]
theorem results1_sh {T : Tabs} {b : Bool} (n n' : Nat) : ∀ (ts : List TypeId) (rms : List RM) (us : List (List U)) (i d : Nat), (b = true ∨ ∀ m ∈ rms, m = .own) →
    results1 T rms ts us i (n' + d) = ((results1 T rms ts us i (n + d)).1.map (fun x => (x.1, x.2.map (shC b n n'))), (results1 T rms ts us i (n + d)).2)
  | [], rms, us, i, d, hb => by unfold results1; rfl
  | t :: ts, rms, us, i, d, hb => by
    have h1 := resCells_sh (b := b) (md := rms.headD .own) (hb.imp id fun h => by cases rms with | nil => rfl | cons m ms => exact h m (by simp)) n n' (T.ct t) (us.getD i []) 0 d
    have h2 := results1_sh (T := T) (b := b) n n' ts rms.tail us (i + 1) (d + (resCells (rms.headD .own) (T.ct t) (us.getD i []) 0 (n + d)).2.length) (hb.imp id fun h m hm => h m (List.mem_of_mem_tail hm))
    unfold results1
    simp only [h1]
    rw [Nat.add_assoc, h2, ← Nat.add_assoc]
    rfl
theorem resSV_map {f : Cl → Cl} (hf : f .no = .no) (z : List (Bool × List Cl)) : resSV (z.map fun x => (x.1, x.2.map f)) = (resSV z).mapC f := by
  match z with
  | [] => rfl
  | [(true, cs)] => rfl
  | [(false, [])] => simp [resSV, SV.mapC, hf]
  | [(false, [c])] => rfl
  | [(false, _ :: _ :: _)] => simp [resSV, SV.mapC, hf]
  | (true, cs) :: y :: z => rfl
  | (false, []) :: y :: z => rfl
  | (false, [c]) :: y :: z => rfl
  | (false, _ :: _ :: _) :: y :: z => rfl
theorem resSV_shape (z : List (Bool × List Cl)) : (∃ x, resSV z = .c x) ∨ (∃ xs, resSV z = .ag xs) ∨ ∃ vs, resSV z = .tup vs := by
  match z with
  | [] => exact .inr (.inr ⟨_, rfl⟩)
  | [(true, cs)] => exact .inr (.inl ⟨_, rfl⟩)
  | [(false, [])] => exact .inl ⟨_, rfl⟩
  | [(false, [c])] => exact .inl ⟨_, rfl⟩
  | [(false, _ :: _ :: _)] => exact .inl ⟨_, rfl⟩
  | (true, cs) :: y :: z => exact .inr (.inr ⟨_, rfl⟩)
  | (false, []) :: y :: z => exact .inr (.inr ⟨_, rfl⟩)
  | (false, [c]) :: y :: z => exact .inr (.inr ⟨_, rfl⟩)
  | (false, _ :: _ :: _) :: y :: z => exact .inr (.inr ⟨_, rfl⟩)
theorem resCells_rows (md : RM) : ∀ (ts : List CT) (us : List U) (i n : Nat), ∀ x ∈ (resCells md ts us i n).2, ∃ e d xs, x = .row e d xs ∧ (md = .own → d = true)
  | [], us, i, n, x, hx => by simp [resCells] at hx
  | .slc e :: ts, us, i, n, x, hx => by
    cases md with
    | ro => exact resCells_rows .ro ts us (i + 1) n x hx
    | own =>
      simp only [resCells, List.mem_cons] at hx
      rcases hx with rfl | hx
      · exact ⟨_, _, _, rfl, fun _ => rfl⟩
      · exact resCells_rows .own ts us (i + 1) _ x hx
    | shal =>
      simp only [resCells, List.mem_cons] at hx
      rcases hx with rfl | hx
      · exact ⟨_, _, _, rfl, fun h => by cases h⟩
      · exact resCells_rows .shal ts us (i + 1) _ x hx
  | .int k :: ts, us, i, n, x, hx => resCells_rows md ts us (i + 1) n x (by simpa only [resCells] using hx)
  | .bool :: ts, us, i, n, x, hx => resCells_rows md ts us (i + 1) n x (by simpa only [resCells] using hx)
  | .str :: ts, us, i, n, x, hx => resCells_rows md ts us (i + 1) n x (by simpa only [resCells] using hx)
theorem results1_rows {T : Tabs} : ∀ (ts : List TypeId) (rms : List RM) (us : List (List U)) (i n : Nat), ∀ x ∈ (results1 T rms ts us i n).2, ∃ e d xs, x = .row e d xs ∧ ((∀ m ∈ rms, m = .own) → d = true)
  | [], rms, us, i, n, x, hx => by unfold results1 at hx; simp at hx
  | t :: ts, rms, us, i, n, x, hx => by
    unfold results1 at hx
    rcases List.mem_append.1 hx with hx | hx
    · obtain ⟨e, d, xs, h1, h2⟩ := resCells_rows _ _ _ _ _ x hx
      exact ⟨e, d, xs, h1, fun h => h2 (by cases rms with | nil => rfl | cons m ms => exact h m (by simp))⟩
    · obtain ⟨e, d, xs, h1, h2⟩ := results1_rows ts rms.tail us _ _ x hx
      exact ⟨e, d, xs, h1, fun h => h2 fun m hm => h m (List.mem_of_mem_tail hm)⟩
theorem dedup_mem : ∀ (xs acc : List Nat) (x : Nat), x ∈ dedup acc xs ↔ x ∈ acc ∨ x ∈ xs
  | [], acc, x => by simp [dedup]
  | y :: ys, acc, x => by
    unfold dedup
    split
    · rename_i hy
      have hy : y ∈ acc := by simpa using hy
      rw [dedup_mem ys acc x, List.mem_cons]
      constructor
      · rintro (h | h) <;> simp [h]
      · rintro (h | rfl | h)
        · exact .inl h
        · exact .inl hy
        · exact .inr h
    · rw [dedup_mem ys _ x, List.mem_append, List.mem_singleton, List.mem_cons, or_assoc]

section
variable {P : Program} {X X' : Ctx} {own0 : Nat → Option Nat} {w0 : World} {st : St} {a : Act} {w w' : World} {g g' : Gh} {R : Type}
theorem SVR.mapC {rt rt' : List Root} (f : Cl → Cl) (hf : ∀ x v, ClR X w rt g x v → ClR X' w' rt' g' (f x) v) (hno : f .no = .no) {z : List (Bool × List Cl)} {v : Value} (h : SVR X w rt g (resSV z) v) : SVR X' w' rt' g' ((resSV z).mapC f) v := by
  have hcs : ∀ {xs : List Cl} {vs : List Value}, ClsR X w rt g xs vs → ClsR X' w' rt' g' (xs.map f) vs := by
    intro xs
    induction xs with
    | nil => intro vs h; cases vs <;> exact h
    | cons x xs ih => intro vs h; cases vs with
      | nil => exact h
      | cons v vs => exact ⟨hf _ _ h.1, ih h.2⟩
  have htu : ∀ {xs : List (Bool × List Cl)} {vs : List Value}, TupR X w rt g xs vs → TupR X' w' rt' g' (xs.map fun x => (x.1, x.2.map f)) vs := by
    intro xs
    induction xs with
    | nil => intro vs h; cases vs <;> exact h
    | cons x xs ih =>
      intro vs h
      obtain ⟨b, cs⟩ := x
      cases b with
      | true => cases vs with
        | nil => exact h
        | cons v vs => obtain ⟨⟨ds, h1, h2⟩, h3⟩ := h; exact ⟨⟨ds, h1, hcs h2⟩, ih h3⟩
      | false =>
        match cs, h with
        | [], h => cases vs with
          | nil => exact h
          | cons v vs => exact ih (vs := vs) h
        | [c], h => cases vs with
          | nil => exact h
          | cons v vs => exact ⟨hf _ _ h.1, ih h.2⟩
        | _ :: _ :: _, h => cases vs with
          | nil => exact h
          | cons v vs => exact ih (vs := vs) h
  rcases resSV_shape z with ⟨x, hx⟩ | ⟨xs, hx⟩ | ⟨vs, hx⟩ <;> rw [hx] at h ⊢
  · by_cases hn : x = .no
    · subst hn
      show SVR X' w' rt' g' (.c (f .no)) v
      rw [hno]; trivial
    · exact SVR.ofCl (hf x v (h.cl hn))
  · obtain ⟨ds, h1, h2⟩ := h; exact ⟨ds, h1, hcs h2⟩
  · obtain ⟨ds, h1, h2⟩ := h; exact ⟨ds, h1, htu h2⟩
theorem CapsR.svs {rt : List Root} : ∀ {caps : List Cap} {vs : List Value}, CapsR X w rt g caps vs → SvsR X w rt g (caps.map Cap.sv) vs
  | [], [], _ => trivial
  | .c x :: caps, v :: vs, h => ⟨SVR.ofCl h.1, CapsR.svs h.2⟩
  | .bx r o :: caps, v :: vs, h => ⟨h.1, CapsR.svs h.2⟩
  | .pr e us o :: caps, v :: vs, h => ⟨h.1, CapsR.svs h.2⟩
  | [], _ :: _, h => h.elim
  | .c _ :: _, [], h => h.elim
  | .bx .. :: _, [], h => h.elim
  | .pr .. :: _, [], h => h.elim
theorem SvsR.append {rt : List Root} : ∀ {xs ys : List SV} {vs us : List Value}, SvsR X w rt g xs vs → SvsR X w rt g ys us → SvsR X w rt g (xs ++ ys) (vs ++ us)
  | [], _, [], _, _, k => k
  | x :: xs, _, v :: vs, _, h, k => ⟨h.1, SvsR.append h.2 k⟩
  | [], _, _ :: _, _, h, _ => h.elim
  | _ :: _, _, [], _, h, _ => h.elim
theorem LinksOk.freeze {st1 : St} {g1 : Gh} {kr : List Nat} (hv : g1.v = g.v) (hrow : ∀ s e d xs, s ∉ kr → st.rt[s]? = some (.row e d xs) → st1.rt[s]? = some (.row e d xs)) : ∀ {ls : List Link} {lv : List Value}, (∀ r ∈ linkRoots (ls.map (·.2)), r ∉ kr) → LinksOk X st w g ls lv → LinksOk X st1 w g1 ls lv
  | [], [], _, _ => trivial
  | l :: ls, v :: vs, hk, h => by
    refine ⟨?_, LinksOk.freeze hv hrow (fun r hr => hk r ?_) h.2⟩
    · obtain ⟨e, d, h1, h2⟩ := h.1
      refine ⟨e, d, h1, h2.imp id ?_⟩
      rintro ⟨r, p, e0, xs, q1, q2, q3, q4⟩
      refine ⟨r, p, e0, xs, q1, hrow r _ _ _ (hk r ?_) q2, q3, by rw [hv]; exact q4⟩
      exact List.mem_filterMap.2 ⟨l.2, List.mem_map.2 ⟨l, by simp, rfl⟩, by rw [q1]; rfl⟩
    · obtain ⟨o, h1, h2⟩ := List.mem_filterMap.1 hr
      exact List.mem_filterMap.2 ⟨o, by rw [List.map_cons]; exact List.mem_cons_of_mem _ h1, h2⟩
  | [], _ :: _, _, h => h.elim
  | _ :: _, [], _, h => h.elim
theorem callK_sound {E : Env} (hTe : E.T = X.T) (hfns : E.fns = fnsOf P) (hs : Sound P X.T E.sig E.den) (h : Rel X own0 w0 st a w g) {f : FuncId} {args : List SV} {caps : List Cap} {vs cvs : List Value} (hargs : SvsR X w st.rt g args vs) (hcaps : CapsR X w st.rt g caps cvs)
    {d : Option Tmp} {K : St → Option R} {r : R} (hq : callK E st f args caps d K = some r) : ∃ st', K st' = some r ∧ ∃ fn, P.funcs[f]? = some fn ∧ fn.body.isNone = false ∧
      Calls P f (vs ++ cvs).toArray w fun e w' => ∃ v, e = .returned v ∧ ∃ g', Rel X own0 w0 st' (a.put d v) w' g' := by
  unfold callK at hq
  rw [hTe] at hq
  split at hq <;> try (cases hq; done)
  rename_i pts rts hf
  split at hq <;> try (cases hq; done)
  rename_i hk
  split at hq <;> try (cases hq; done)
  rename_i svs ls kr hprep
  simp only at hq
  split at hq <;> try (cases hq; done)
  rename_i hc
  obtain ⟨hn, hdis, hro⟩ := hc
  rw [fList_eq fSV_eq, fList_eq fRoot_eq] at hq
  obtain ⟨ret, hden, hq⟩ := Option.bind_eq_some_iff.1 hq
  rw [fSt_eq] at hq
  refine ⟨_, hq, ?_⟩
  obtain ⟨fn, hfn, hbody, hS⟩ := hs f svs _ ret hden
  refine ⟨fn, hfn, hbody, ?_⟩
  have hrts : rts = fn.resultTypes.toList := by
    rw [hfns] at hf
    simp only [fnsOf, hfn, Option.map_some, Option.some.injEq, Prod.mk.injEq] at hf
    exact hf.2.symm
  subst hrts
  have hLR : linkRoots (ls.map (·.2)) = ls.filterMap fun l => l.2.map (·.1) := by
    unfold linkRoots
    rw [List.filterMap_map]; rfl
  rw [← hLR] at hn hdis
  have hn := nodupB_spec hn
  have hdis : ∀ r ∈ linkRoots (ls.map (·.2)), r ∉ kr := fun r hr hrk => by
    have := List.all_eq_true.1 hdis r hr
    simp only [List.elem_eq_mem, Bool.not_eq_true', decide_eq_false_iff_not] at this
    exact this hrk
  obtain ⟨lv, hl, hsv⟩ := prep_spec h.mem hprep (hargs.append hcaps.svs)
  -- what the callee reads
  let S' : Nat → Prop := fun b => b < w.heap.size ∧ (okb X w g b ∨ ∃ s ∈ kr, g.own b = some s)
  generalize hst1 : (if ((E.sig f).rs.any fun m => !decide (m = .own)) = true then st.freezeAll (dedup [] kr) else st) = st1
  obtain ⟨g1, F1, F2, F3, F4, F5, F6, F7⟩ : ∃ g1, Rel X own0 w0 st1 a w g1 ∧ g1.v = g.v ∧ (∀ b, g.own b = none → g1.own b = none) ∧ (∀ b s, g1.own b = some s → g.own b = some s) ∧ (∀ s e d xs, s ∉ kr → st.rt[s]? = some (.row e d xs) → st1.rt[s]? = some (.row e d xs)) ∧
      st1.rt.length = st.rt.length ∧ ((∀ m ∈ (E.sig f).rs, m = .own) ∨ (((E.sig f).rs.any fun m => !decide (m = .own)) = true ∧ ∀ b, S' b → okb X w g1 b)) := by
    cases hb : (E.sig f).rs.any fun m => !decide (m = .own) with
    | false =>
      rw [hb, if_neg (by simp)] at hst1
      subst hst1
      refine ⟨g, h, rfl, fun _ hb => hb, fun _ _ hb => hb, fun _ _ _ _ _ hx => hx, rfl, .inl fun m hm => ?_⟩
      have := List.any_eq_false.1 hb m hm
      simpa using this
    | true =>
      rw [hb, if_pos rfl] at hst1
      subst hst1
      rcases hro with hro | ⟨hro1, hro2⟩
      · rw [hb] at hro; cases hro
      have hnp : ∀ r ∈ kr, st.np ≤ r := fun r hr => by simpa using List.all_eq_true.1 hro2 r hr
      have hrow : ∀ r ∈ kr, IsRow st.rt r := fun r hr => by
        have := List.all_eq_true.1 hro1 r hr
        split at this
        · rename_i e d xs hx; exact ⟨e, d, xs, hx⟩
        · cases this
      obtain ⟨g1, q1, q2, q3, q4, q5, q6, q7, q8, q9, q10⟩ := h.freezeAll (dedup [] kr) (fun r hr => hnp r (by simpa using (dedup_mem kr [] r).1 hr))
      refine ⟨g1, q1, q2, q4, q6, fun s e d xs hs hx => q8 s e d xs (fun hh => hs (by simpa using (dedup_mem kr [] s).1 hh)) hx, q9, .inr ⟨rfl, fun b hb' => ?_⟩⟩
      obtain ⟨hlt, hb' | ⟨s, hs, hb'⟩⟩ := hb'
      · exact ⟨q4 b hb'.1, hb'.2⟩
      · refine ⟨q7 b s ((dedup_mem kr [] s).2 (.inr hs)) (hrow s hs) hb', hlt, ?_⟩
        rcases h.mem.pm b s hb' with hh | ⟨hh, _⟩
        · exact .inr hh
        · have := hnp s hs
          rw [h.mem.np] at this
          omega
  have hl1 : LinksOk X st1 w g1 ls lv := LinksOk.freeze F2 F5 hdis hl
  obtain ⟨own, ho⟩ := own_in F1.mem hl1 hn
  have hown : ∀ {b i}, own b = some i → ∃ r, r ∈ linkRoots (ls.map (·.2)) ∧ g.own b = some r := fun hh => by
    obtain ⟨x, r, p, h1, h2⟩ := (ho _).1 _ hh
    exact ⟨r, List.mem_filterMap.2 ⟨_, List.mem_map.2 ⟨_, List.mem_of_getElem? h1, rfl⟩, rfl⟩, F4 _ _ h2⟩
  have hmem := mem_in F1.mem hl1 ho S' svs
  have hreads : Reads X w g kr ⟨X.T, S', w.heap.size, ls.length, fun i => lv.getD i undef, own⟩ ⟨own, fun i => lv.getD i undef, fun _ => 0⟩ := by
    refine ⟨rfl, fun b hb => ⟨?_, hb.2.1, .inl ⟨hb.2.1, .inl hb⟩⟩, fun b s hs hb => ⟨?_, h.mem.lt b (by rw [hb]; simp), .inl ⟨h.mem.lt b (by rw [hb]; simp), .inr ⟨s, hs, hb⟩⟩⟩⟩
    · show own b = none
      cases hc : own b with
      | none => rfl
      | some i => obtain ⟨r, _, h2⟩ := hown hc; rw [hb.1] at h2; cases h2
    · show own b = none
      cases hc : own b with
      | none => rfl
      | some i =>
        obtain ⟨r, h1, h2⟩ := hown hc
        obtain rfl := Option.some.inj (hb.symm.trans h2)
        exact absurd hs (hdis _ h1)
  have hseg : Seg ls lv 0 (ls.map (·.1)) ⟨own, fun i => lv.getD i undef, fun _ => 0⟩ := by
    refine ⟨fun k l hk => by rw [Nat.zero_add, List.getElem?_map, hk]; rfl, fun k v hk => ?_⟩
    rw [Nat.zero_add]
    exact getD_of_some hk
  have hcall := hS (fun t ht => by simpa using List.all_eq_true.1 hk.2 t ht) ⟨X.T, S', w.heap.size, ls.length, fun i => lv.getD i undef, own⟩ w _ (vs ++ cvs).toArray rfl rfl hmem (hsv _ _ _ hreads hseg)
  refine hcall.mono fun e w' => ?_
  rintro ⟨v, rfl, g', hm', hfr, hv⟩
  refine ⟨v, rfl, ?_⟩
  have hres := fun x hx => results1_rows (T := X.T) fn.resultTypes.toList (E.sig f).rs ret.res 0 ls.length x hx
  obtain ⟨c1, c2, c3⟩ := call_out F1 hl1 hn ho (S' := S') (ms := ret.ms) (res := (results1 X.T (E.sig f).rs fn.resultTypes.toList ret.res 0 ls.length).2) (fun x hx => by obtain ⟨e, d, xs, h1, _⟩ := hres x hx; exact ⟨e, d, xs, h1⟩)
    (F7.imp (fun hall x hx => by obtain ⟨e, d, xs, h1, h2⟩ := hres x hx; rw [h2 hall] at h1; exact ⟨e, xs, h1⟩) (fun hh => hh.2)) hm' hfr
  have hLR1 : ∀ r ∈ linkRoots (ls.map (·.2)), IsRow st1.rt r := fun r hr => by
    obtain ⟨o, h1, h2⟩ := List.mem_filterMap.1 hr
    obtain ⟨l, h3, rfl⟩ := List.mem_map.1 h1
    obtain ⟨i, hi⟩ := List.getElem?_of_mem h3
    obtain ⟨v, _, e, d, _, hh⟩ := hl1.get hi
    rcases hh with ⟨hh, _⟩ | ⟨r', p, e0, xs, q1, q2, _⟩
    · rw [hh] at h2; cases h2
    · rw [q1] at h2; cases h2; exact ⟨e0, true, xs, q2⟩
  obtain ⟨b1, b2, b3, b4, b5⟩ := putBack_spec (ls := ls.map (·.2)) (ms := ret.ms) (i := 0) (st := st1) hn hLR1
  rw [b2, b3]
  let bb := (E.sig f).rs.any fun m => !decide (m = .own)
  have hbb : bb = true ∨ ∀ m ∈ (E.sig f).rs, m = .own := F7.symm.imp (fun h => h.1) id
  have hsh := results1_sh (T := X.T) (b := bb) ls.length st1.rt.length fn.resultTypes.toList (E.sig f).rs ret.res 0 0 hbb
  simp only [Nat.add_zero] at hsh
  rw [hsh, resSV_map (by rfl)]
  refine ⟨_, c1.put d (SVR.mapC (shC bb ls.length st1.rt.length) (fun x v hx => ?_) rfl hv)⟩
  cases x with
  | al r p e =>
    show ClR X w' _ _ (if ls.length ≤ r then .al (r - ls.length + st1.rt.length) p e else .no) v
    split
    · rename_i hle
      obtain ⟨e0, dd, xs, h1, h2, h3⟩ := hx
      refine ⟨e0, dd, xs, ?_, h2, ?_⟩
      · rw [List.getElem?_append_right (by rw [b3]; omega), b3, show r - ls.length + st1.rt.length - st1.rt.length = r - ls.length from by omega]
        rw [List.getElem?_append_right (by rw [msRoots_len, rootTypes_len, List.length_map]; exact hle), msRoots_len, rootTypes_len, List.length_map] at h1
        exact h1
      · show At _ _ _ _ (if r - ls.length + st1.rt.length < st1.rt.length then _ else g'.v ((ls.map (·.2)).length + (r - ls.length + st1.rt.length - st1.rt.length))) _ _ _ _
        rw [if_neg (by omega), List.length_map, show ls.length + (r - ls.length + st1.rt.length - st1.rt.length) = r from by omega]
        exact h3
    · exact hx.one hm'
  | rd e xs =>
    show ClR X w' _ _ (if bb = true then .rd e xs else .no) v
    split
    · rename_i hbt
      refine RepR.imp hx fun b hb => ⟨?_, rfl⟩
      rcases F7 with hh | ⟨_, hh⟩
      · exfalso
        have : bb = false := List.any_eq_false.2 fun m hm => by simp [hh m hm]
        rw [this] at hbt; cases hbt
      · by_cases hlt : b < w.heap.size
        · rcases hb.2.2 with hs | hs
          · exact (c2 b (hh b hs)).1
          · exact absurd hlt (Nat.not_lt.2 hs)
        · exact c3 b (by omega) hb.2.1 hb.1
    · exact RepR.one hx
  | _ => exact hx
end
end Go.Proofs.Ytlblehdenhpijaa.Eng
