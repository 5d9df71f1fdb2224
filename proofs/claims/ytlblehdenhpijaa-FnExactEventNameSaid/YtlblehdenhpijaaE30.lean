/- The evaluator, part 30: operations of regions whose order is drawn. Of no program. -/
import Derived.Test.YtlblehdenhpijaaE29
namespace Go.Proofs.Ytlblehdenhpijaa.Eng
open Go.RowKit
set_option linter.unusedVariables false

/-! ### Results that are to be read only -/
def frC (b : Bool) (rt : List Root) : Cl → Cl
  | .al r p e => (match rt[r]? with | some (.row _ d xs) => if d || b then .rd e (getP xs p) else .no | _ => .no)
  | .rd e xs => if b then .rd e xs else .no
  | x => x
theorem frC_ofU {b : Bool} {rt : List Root} {t : CT} {u : U} (h : t.isSlc = false) : frC b rt (Cl.ofU t u) = Cl.ofU t u := by
  cases t <;> first | rfl | cases h
theorem resCells_fr {b : Bool} {md : RM} (hb : b = true ∨ md = .own) (rt : List Root) (m : Nat) : ∀ (ts : List CT) (us : List U) (i n : Nat), (∀ (k : Nat) x, (resCells md ts us i n).2[k]? = some x → rt[n + k]? = some x) →
    resCells .ro ts us i m = ((resCells md ts us i n).1.map (frC b rt), [])
  | [], us, i, n, h => by simp [resCells]
  | .slc e :: ts, us, i, n, h => by
    cases md with
    | ro =>
      have hb' : b = true := hb.resolve_right (by decide)
      subst hb'
      have h1 := resCells_fr hb rt m ts us (i + 1) n h
      simp only [resCells] at h1 ⊢
      rw [h1]; rfl
    | own =>
      have h1 := resCells_fr hb rt m ts us (i + 1) (n + 1) (fun k x hk => by
        have := h (k + 1) x (by simpa [resCells] using hk)
        rwa [show n + (k + 1) = n + 1 + k from by omega] at this)
      have h0 := h 0 (.row e true (us.getD i U0).toLst) (by simp [resCells])
      have h2 : frC b rt (.al n [] e) = .rd e (us.getD i U0).toLst := by
        rw [Nat.add_zero] at h0
        simp only [frC, h0]; rfl
      simp only [resCells] at h1 ⊢
      rw [h1, List.map_cons, h2]
    | shal =>
      have hb' : b = true := hb.resolve_right (by decide)
      have h1 := resCells_fr hb rt m ts us (i + 1) (n + 1) (fun k x hk => by
        have := h (k + 1) x (by simpa [resCells] using hk)
        rwa [show n + (k + 1) = n + 1 + k from by omega] at this)
      have h0 := h 0 (.row e false (us.getD i U0).toLst) (by simp [resCells])
      have h2 : frC b rt (.al n [] e) = .rd e (us.getD i U0).toLst := by
        rw [Nat.add_zero] at h0
        simp only [frC, h0, hb']; rfl
      simp only [resCells] at h1 ⊢
      rw [h1, List.map_cons, h2]
  | .int k :: ts, us, i, n, h => by
    have h1 := resCells_fr hb rt m ts us (i + 1) n h
    simp only [resCells] at h1 ⊢
    rw [h1, List.map_cons, frC_ofU (t := .int k) rfl]
  | .bool :: ts, us, i, n, h => by
    have h1 := resCells_fr hb rt m ts us (i + 1) n h
    simp only [resCells] at h1 ⊢
    rw [h1, List.map_cons, frC_ofU (t := .bool) rfl]
  | .str :: ts, us, i, n, h => by
    have h1 := resCells_fr hb rt m ts us (i + 1) n h
    simp only [resCells] at h1 ⊢
    rw [h1, List.map_cons, frC_ofU (t := .str) rfl]
theorem results1_fr {T : Tabs} {b : Bool} (rt : List Root) (m : Nat) : ∀ (ts : List TypeId) (rms : List RM) (us : List (List U)) (i n : Nat), (b = true ∨ ∀ x ∈ rms, x = .own) → (∀ (k : Nat) x, (results1 T rms ts us i n).2[k]? = some x → rt[n + k]? = some x) →
    results1 T (ts.map fun _ => RM.ro) ts us i m = ((results1 T rms ts us i n).1.map (fun x => (x.1, x.2.map (frC b rt))), [])
  | [], rms, us, i, n, hb, h => by unfold results1; rfl
  | t :: ts, rms, us, i, n, hb, h => by
    have h1 := resCells_fr (b := b) (md := rms.headD .own) (hb.imp id fun h => by cases rms with | nil => rfl | cons m ms => exact h m (by simp)) rt m (T.ct t) (us.getD i []) 0 n (fun k x hk => h k x (by
      unfold results1
      simp only
      rw [List.getElem?_append_left (lt_of_some hk)]; exact hk))
    have h2 := results1_fr (T := T) (b := b) rt m ts rms.tail us (i + 1) (n + (resCells (rms.headD .own) (T.ct t) (us.getD i []) 0 n).2.length) (hb.imp id fun h m hm => h m (List.mem_of_mem_tail hm)) (fun k x hk => by
      have := h ((resCells (rms.headD .own) (T.ct t) (us.getD i []) 0 n).2.length + k) x (by
        unfold results1
        simp only
        rw [List.getElem?_append_right (by omega), Nat.add_sub_cancel_left]; exact hk)
      rwa [← Nat.add_assoc] at this)
    unfold results1
    simp only [List.map_cons, List.headD_cons, List.tail_cons]
    rw [h1, show m + ([] : List Root).length = m from rfl, h2]
    rfl

section
variable {P : Program} {X X' : Ctx} {own0 : Nat → Option Nat} {w0 : World} {st : St} {a : Act} {w w' : World} {g g' : Gh} {R : Type} {E : Env}

/-- Memory has grown, nothing else. -/
theorem Rel.grow (h : Rel X own0 w0 st a w g) (h1 : w'.os = w.os) (h2 : w'.tape = w.tape) (h3 : w'.output = w.output) (hs : w.heap.size ≤ w'.heap.size) (hb : ∀ b, b < w.heap.size → w'.heap[b]? = w.heap[b]?) : Rel X own0 w0 st a w' g := by
  have hown : ∀ {b r}, g.own b = some r → b < w.heap.size := fun hb => h.mem.lt _ (by rw [hb]; simp)
  have hK : Keep X (fun _ => False) (fun _ => False) w g st.rt w' g st.rt :=
    ⟨fun b hk => ⟨⟨hk.1, Nat.lt_of_lt_of_le hk.2.1 hs, hk.2.2⟩, hb b hk.2.1⟩, fun b r _ ho => ⟨ho, hb b (hown ho)⟩, fun _ _ _ => rfl, fun r e d xs _ hx => hx, fun r t cs hx => ⟨rfl, cs, hx⟩, fun _ hf => hf.elim⟩
  refine ⟨⟨fun r x hx => RootR.keep h.mem hK hx (fun hf => hf) (Root.avd_false x), fun b hn => Nat.lt_of_lt_of_le (h.mem.lt b hn) hs, h.mem.ob, Nat.le_trans h.mem.n0 hs, h.mem.np, h.mem.nl, h.mem.pm, h.mem.pv⟩, h.sz, fun i sv hi => SVR.keep h.mem hK (SV.avd_false sv) (h.sl i sv hi), h.df,
    ⟨h1.trans h.fr.os, h2.trans h.fr.tape, h3.trans h.fr.output, Nat.le_trans h.fr.size hs, fun b hlt ho => ?_⟩⟩
  obtain ⟨e1, e2⟩ := h.fr.block b hlt ho
  exact ⟨e1, (hb b (Nat.lt_of_lt_of_le hlt h.fr.size)).trans e2⟩
theorem callD_sound (hE : EnvOk P X.T E) (h : Rel X own0 w0 st a w g) {o : Oper} {c : Call} {f : Operand} {fid : FuncId} {caps : List Cap} (ho : o.op = .call c) (hc : c.callee = .value f) (hev : ev st f = .fn fid caps) {sv : SV}
    (hq : callD E st fid (c.args.toList.map (ev st)) caps some = some sv) : OpTo P X own0 w0 o a w (st.put o.dst sv) := by
  have hf0 := ev_sound h f
  rw [hev] at hf0
  obtain ⟨cvs, hf1, hf2⟩ := hf0
  unfold callD at hq
  rw [hE.tE] at hq
  split at hq <;> try (cases hq; done)
  rename_i pts rts hf
  split at hq <;> try (cases hq; done)
  rename_i hk
  split at hq <;> try (cases hq; done)
  rename_i svs kr hprep
  split at hq <;> try (cases hq; done)
  rename_i hcond
  rw [fList_eq fSV_eq] at hq
  obtain ⟨ret, hden, hq⟩ := Option.bind_eq_some_iff.1 hq
  obtain rfl := Option.some.inj hq
  obtain ⟨fn, hfn, hbody, hS⟩ := hE.den fid svs _ ret hden
  have hrts : rts = fn.resultTypes.toList := by
    rw [hE.fns] at hf
    simp only [fnsOf, hfn, Option.map_some, Option.some.injEq, Prod.mk.injEq] at hf
    exact hf.2.symm
  subst hrts
  obtain ⟨lv, hl, hsv⟩ := prep_spec h.mem hprep ((args_sound h c.args.toList).append hf2.svs)
  obtain rfl : lv = [] := by cases lv with | nil => rfl | cons _ _ => exact hl.elim
  let S' : Nat → Prop := fun b => b < w.heap.size ∧ (okb X w g b ∨ ∃ s ∈ kr, g.own b = some s)
  have hmem : Mem ⟨X.T, S', w.heap.size, 0, fun _ => undef, fun _ => none⟩ ⟨svs, [], 0⟩ w ⟨fun _ => none, fun _ => undef, fun _ => 0⟩ :=
    ⟨fun r x hx => by simp at hx, fun b hb => absurd rfl hb, fun b r hb => (by cases hb), Nat.le_refl _, rfl, Nat.zero_le _, fun b r hb => (by cases hb), fun r hr => absurd hr (Nat.not_lt_zero _)⟩
  have hreads : Reads X w g kr ⟨X.T, S', w.heap.size, 0, fun _ => undef, fun _ => none⟩ ⟨fun _ => none, fun _ => undef, fun _ => 0⟩ :=
    ⟨rfl, fun b hb => ⟨rfl, hb.2.1, .inl ⟨hb.2.1, .inl hb⟩⟩, fun b s hs hb => ⟨rfl, h.mem.lt b (by rw [hb]; simp), .inl ⟨h.mem.lt b (by rw [hb]; simp), .inr ⟨s, hs, hb⟩⟩⟩⟩
  have hseg : Seg [] [] 0 ([] : List Root) (⟨fun _ => none, fun _ => undef, fun _ => 0⟩ : Gh) := ⟨fun k l hk => by simp at hk, fun k v hk => by simp at hk⟩
  have hcall := hS (fun t ht => by simpa using List.all_eq_true.1 hk.2 t ht) ⟨X.T, S', w.heap.size, 0, fun _ => undef, fun _ => none⟩ w ⟨fun _ => none, fun _ => undef, fun _ => 0⟩ (List.map a.eval c.args.toList ++ cvs.toList).toArray rfl rfl hmem (hsv _ _ _ hreads hseg)
  intro next Q hn
  unfold Oper.wp
  rw [run_callValue ho hc hf1 hfn (hE.calm _ _ hfn) hbody, Oper.upon_enter]
  have e : (List.map a.eval c.args.toList ++ cvs.toList).toArray = c.args.map a.eval ++ cvs := by
    apply Array.toList_inj.1
    simp
  rw [e] at hcall
  refine hcall.mono fun e w' => ?_
  rintro ⟨v, rfl, g', hm', hfr, hv⟩
  have hG : Rel X own0 w0 st a w' g := h.grow hfr.os hfr.tape hfr.output hfr.size (fun b hb => (hfr.block b hb rfl).2)
  refine hn _ _ g (hG.put o.dst ?_)
  -- the results, to be read only
  let bb := (E.sig fid).rs.any fun m => !decide (m = .own)
  have hbb : bb = true ∨ ∀ m ∈ (E.sig fid).rs, m = .own := by
    cases hb : bb with
    | true => exact .inl rfl
    | false => exact .inr fun m hm => by have := List.any_eq_false.1 hb m hm; simpa using this
  have hkr : bb = true → kr = [] := fun hb => by
    have hcond : ¬ ((bb && !kr.isEmpty) = true) := hcond
    rw [hb] at hcond
    simpa using hcond
  have hm' : Mem ⟨X.T, S', w.heap.size, 0, fun _ => undef, fun _ => none⟩ ⟨[], (results1 X.T (E.sig fid).rs fn.resultTypes.toList ret.res 0 0).2, 0⟩ w' g' := hm'
  have hv : SVR ⟨X.T, S', w.heap.size, 0, fun _ => undef, fun _ => none⟩ w' (results1 X.T (E.sig fid).rs fn.resultTypes.toList ret.res 0 0).2 g' (resSV (results1 X.T (E.sig fid).rs fn.resultTypes.toList ret.res 0 0).1) v := hv
  have hres := results1_fr (T := X.T) (b := bb) (results1 X.T (E.sig fid).rs fn.resultTypes.toList ret.res 0 0).2 0 fn.resultTypes.toList (E.sig fid).rs ret.res 0 0 hbb (fun k x hk => by rw [Nat.zero_add]; exact hk)
  rw [hres]
  show SVR X w' st.rt g (resSV ((results1 X.T (E.sig fid).rs fn.resultTypes.toList ret.res 0 0).1.map _)) v
  rw [resSV_map (by rfl)]
  have hgn : ∀ b, w.heap.size ≤ b → b < w'.heap.size → okb X w' g b := fun b hb hlt => by
    refine ⟨?_, hlt, .inr (Nat.le_trans h.mem.n0 hb)⟩
    cases hc : g.own b with
    | none => rfl
    | some s => have := h.mem.lt b (by rw [hc]; simp); omega
  have hown : ∀ b r, g'.own b = some r → okb X w' g b := fun b r hb => by
    rcases hm'.pm b r hb with hh | ⟨hh, _⟩
    · exact hgn b hh (hm'.lt b (by rw [hb]; simp))
    · exact absurd hh (Nat.not_lt_zero _)
  have hokb : bb = true → ∀ b, okb ⟨X.T, S', w.heap.size, 0, fun _ => undef, fun _ => none⟩ w' g' b → okb X w' g b := fun hb b hk => by
    rcases hk.2.2 with hs | hs
    · obtain ⟨hlt, hs | ⟨s, hs, _⟩⟩ := hs
      · exact ⟨hs.1, hk.2.1, hs.2.2⟩
      · rw [hkr hb] at hs; simp at hs
    · exact hgn b hs hk.2.1
  refine SVR.mapC (frC bb _) (fun x v hx => ?_) rfl hv
  cases x with
  | al r p e =>
    have hone := hx.one hm'
    obtain ⟨e0, d, xs, h1, h2, h3⟩ := hx
    have h1 : (results1 X.T (E.sig fid).rs fn.resultTypes.toList ret.res 0 0).2[r]? = some (.row e0 d xs) := h1
    simp only [frC, h1]
    split
    · rename_i hdb
      cases d with
      | true =>
        have hr : RepO X.T.ct w' (fun b => g'.own b = some r) (.slc e0) (.lst xs) (g'.v r) := hm'.rt r _ h1
        obtain ⟨F', h4, h5⟩ := RepO.at h3 hr
        exact h5.toR fun b hb => hown b r (h4 b hb)
      | false =>
        have hb : bb = true := by simpa using hdb
        have hr : RepS X.T.ct w' (fun b => g'.own b = some r) _ e0 xs (g'.v r) := hm'.rt r _ h1
        obtain rfl : p = [] := by simpa using h2
        obtain ⟨h4, h5, rfl⟩ := h3.nil_inv
        obtain rfl := CT.slc.inj h4
        exact RepS.toR hr (fun b hb => hown b r hb) (hokb hb)
    · exact hone
  | rd e xs =>
    show ClR X w' _ _ (if bb = true then .rd e xs else .no) v
    split
    · rename_i hb; exact RepR.imp hx fun b hk => ⟨hokb hb b hk, rfl⟩
    · exact RepR.one hx
  | _ => exact hx
theorem opD_sound (hE : EnvOk P X.T E) (h : Rel X own0 w0 st a w g) {o : Oper} {sv : SV} (hq : opD E o st some = some sv) : OpTo P X own0 w0 o a w (st.put o.dst sv) := by
  have hT := hE.tE
  have quiet : qK E.T E.eqT st.rt (ev st) o.op some = some sv → OpTo P X own0 w0 o a w (st.put o.dst sv) := fun hq => by
    rw [hT] at hq
    obtain ⟨v, h3, h4⟩ := qK_sound hE.tab hE.eq h o hq
    exact OpTo.value h3 (h.put o.dst h4)
  unfold opD at hq
  split at hq
  · rename_i t parts ho
    rw [hT] at hq
    obtain ⟨v, h3, h4⟩ := buildK_sound hE.tab h hq
    exact OpTo.value (v := v) (w' := w) (by simp [execOp, ho, h3]) (h.put o.dst h4)
  · rename_i c ho
    split at hq
    · rename_i f args ts hc
      split at hq
      · rename_i fid caps hev
        exact callD_sound hE h ho hc hev hq
      · cases hq
    · exact quiet hq
  · exact quiet hq
theorem opD_bind (E : Env) (o : Oper) (st : St) (K : SV → Option R) : opD E o st K = (opD E o st some).bind K := by
  unfold opD
  split
  · exact buildK_bind _ _ _ _ _
  · split
    · split
      · unfold callD
        repeat' split
        all_goals first | rfl | contradiction | skip
        rename_i ret _ _ _
        rw [fList_eq fSV_eq, fList_eq fSV_eq]
        cases E.den _ _ _ <;> rfl
      · rfl
    · exact qK_bind ..
  · exact qK_bind ..
end
end Go.Proofs.Ytlblehdenhpijaa.Eng
