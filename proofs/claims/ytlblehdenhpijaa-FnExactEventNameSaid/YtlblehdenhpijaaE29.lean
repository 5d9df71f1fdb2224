/- The evaluator, part 29: operations, one after another. Of no program. -/
import Derived.Test.YtlblehdenhpijaaE28
namespace Go.Proofs.Ytlblehdenhpijaa.Eng
open Go.RowKit
set_option linter.unusedVariables false

/-- What is known of a program and its tables. -/
structure EnvOk (P : Program) (T : Tabs) (E : Env) : Prop where
  tE : E.T = T
  tab : TabOk P T
  eq : EqOk P T E.eqT
  fns : E.fns = fnsOf P
  calm : ∀ (g : FuncId) (fn : Func), P.funcs[g]? = some fn → (fn.name == "runtime.NumGoroutine") = false
  den : Sound P T E.sig E.den

section
variable {P : Program} {X : Ctx} {own0 : Nat → Option Nat} {w0 : World} {st : St} {a : Act} {w w' : World} {g g' : Gh} {R : Type} {E : Env}

theorem buildK_bind (T : Tabs) (ρ : Operand → SV) (t : TypeId) (parts : List (Nat × Operand)) (K : SV → Option R) : buildK T ρ t parts K = (buildK T ρ t parts some).bind K := by
  unfold buildK
  repeat' split
  all_goals first | rfl | contradiction
theorem args_sound (h : Rel X own0 w0 st a w g) : ∀ xs : List Operand, SvsR X w st.rt g (xs.map (ev st)) (xs.map a.eval)
  | [] => trivial
  | x :: xs => ⟨ev_sound h x, args_sound h xs⟩
theorem run_enter {fid : FuncId} {args : Array Value} {fn : Func} (hfn : P.funcs[fid]? = some fn) (hn : (fn.name == "runtime.NumGoroutine") = false) (hb : fn.body.isNone = false) : (callFunc fid args).run P w = .ok (.enter fid args) w := by
  have hb' : fn.body.isSome = true := by simpa using hb
  obtain ⟨c, hc⟩ := Option.isSome_iff_exists.1 hb'
  have hn' : ¬ fn.name = "runtime.NumGoroutine" := by simpa using hn
  simp [callFunc, go_sem, hfn, hn', hc]
theorem run_callValue {o : Oper} {c : Call} {f : Operand} {fid : FuncId} {cvs : Array Value} {fn : Func} (ho : o.op = .call c) (hc : c.callee = .value f) (hf : a.eval f = .func (.func fid) #[] cvs) (hfn : P.funcs[fid]? = some fn) (hn : (fn.name == "runtime.NumGoroutine") = false) (hb : fn.body.isNone = false) :
    (execOp a.eval o).run P w = .ok (.enter fid (c.args.map a.eval ++ cvs)) w := by
  obtain ⟨dst, op, type, pos, after, guard⟩ := o
  simp only at ho
  subst ho
  obtain ⟨ce, ar, ty⟩ := c
  simp only at hc
  subst hc
  have e : execOp a.eval ⟨dst, .call ⟨.value f, ar, ty⟩, type, pos, after, guard⟩ = callFunc fid (#[] ++ ar.map a.eval ++ cvs) := by
    show (do let d ← Deferred.ofValue (a.eval f) (ar.map a.eval); invoke d.target d.args) = _
    rw [hf]; rfl
  rw [e, run_enter hfn hn hb, Array.empty_append]
theorem call_sound (hE : EnvOk P X.T E) (h : Rel X own0 w0 st a w g) {o : Oper} {c : Call} {f : Operand} {fid : FuncId} {caps : List Cap} (ho : o.op = .call c) (hc : c.callee = .value f) (hev : ev st f = .fn fid caps) {K : St → Option R} {r : R}
    (hq : callK E st fid (c.args.toList.map (ev st)) caps o.dst K = some r) : ∃ st', K st' = some r ∧ OpTo P X own0 w0 o a w st' := by
  have h1 := ev_sound h f
  rw [hev] at h1
  obtain ⟨cvs, h2, h3⟩ := h1
  obtain ⟨st', h4, fn, h5, h6, h7⟩ := callK_sound hE.tE hE.fns hE.den h (args_sound h c.args.toList) h3 hq
  refine ⟨st', h4, fun next Q hn => ?_⟩
  unfold Oper.wp
  rw [run_callValue ho hc h2 h5 (hE.calm _ _ h5) h6, Oper.upon_enter]
  have e : (List.map a.eval c.args.toList ++ cvs.toList).toArray = c.args.map a.eval ++ cvs := by
    apply Array.toList_inj.1
    simp
  rw [e] at h7
  refine h7.mono fun e w' => ?_
  rintro ⟨v, rfl, g', h8⟩
  exact hn _ _ _ h8
theorem quiet_sound (hE : EnvOk P X.T E) (h : Rel X own0 w0 st a w g) {o : Oper} {K : St → Option R} {r : R} (hq : (qK E.T E.eqT st.rt (ev st) o.op fun v => K (st.put o.dst v)) = some r) : ∃ st', K st' = some r ∧ OpTo P X own0 w0 o a w st' := by
  rw [qK_bind, hE.tE] at hq
  obtain ⟨sv, h1, h2⟩ := Option.bind_eq_some_iff.1 hq
  obtain ⟨v, h3, h4⟩ := qK_sound hE.tab hE.eq h o h1
  exact ⟨_, h2, OpTo.value h3 (h.put o.dst h4)⟩
theorem opK_sound (hE : EnvOk P X.T E) (h : Rel X own0 w0 st a w g) {o : Oper} {K : St → Option R} {r : R} (hq : opK E o st K = some r) : ∃ st', K st' = some r ∧ OpTo P X own0 w0 o a w st' := by
  have hT := hE.tE
  unfold opK at hq
  split at hq
  · rename_i t ho; rw [hT] at hq; exact allocK_sound hE.tab h ho hq
  · rename_i t x ho; rw [hT] at hq; exact boxK_sound hE.tab h ho hq
  · rename_i t parts ho
    rw [hT, buildK_bind] at hq
    obtain ⟨sv, h1, h2⟩ := Option.bind_eq_some_iff.1 hq
    obtain ⟨v, h3, h4⟩ := buildK_sound hE.tab h h1
    exact ⟨_, h2, OpTo.value (v := v) (w' := w) (by simp [execOp, ho, h3]) (h.put o.dst h4)⟩
  · rename_i t len parts ho; rw [hT] at hq; exact buildSliceK_sound hE.tab h ho hq
  · rename_i t l c ho; rw [hT] at hq; exact makeSliceK_sound hE.tab h ho hq
  · rename_i t x y ho; rw [hT] at hq; exact storeK_sound hE.tab h ho hq
  · rename_i c ho
    split at hq
    · rename_i f args ts hc
      split at hq
      · rename_i fid caps hev
        exact call_sound hE h ho hc hev hq
      · cases hq
    · rename_i s x t t2 hc hargs htys
      rw [hT] at hq
      refine appendK_sound hE.tab h (s := s) (x := x) (t := t) (t2 := t2) ?_ hq
      rw [ho]
      obtain ⟨ce, ar, ty⟩ := c
      have e1 : ar = #[s, x] := Array.toList_inj.1 hargs
      have e2 : ty = #[t, t2] := Array.toList_inj.1 htys
      subst e1 e2
      simp only at hc
      rw [hc]
    · exact quiet_sound hE h hq
  · rename_i x ho
    split at hq
    · rename_i e hx he
      have hv := ev_sound h x
      rw [hx] at hv
      refine ⟨_, hq, OpTo.value (v := a.eval x) (w' := w) (by simp [execOp, ho]) ((h.addNil e).put o.dst ?_)⟩
      rw [show a.eval x = .slice none 0 0 from hv]
      exact addNil_al
    · exact ⟨_, hq, OpTo.value (v := a.eval x) (w' := w) (by simp [execOp, ho]) (h.put o.dst (ev_sound h x))⟩
  · exact quiet_sound hE h hq
theorem Rel.forget (h : Rel X own0 w0 st a w g) (d : Option Tmp) : Rel X own0 w0 (st.put d .no) a w g := by
  cases d with
  | none => exact h
  | some d =>
    refine ⟨⟨h.mem.rt, h.mem.lt, h.mem.ob, h.mem.n0, h.mem.np, h.mem.nl, h.mem.pm, h.mem.pv⟩, by show (st.sl.set d _).length ≤ _; rw [List.length_set]; exact h.sz, fun i x hx => ?_, h.df, h.fr⟩
    have hx : (st.sl.set d SV.no)[i]? = some x := hx
    rw [List.getElem?_set] at hx
    split at hx
    · split at hx
      · obtain rfl := Option.some.inj hx; trivial
      · cases hx
    · exact h.sl i x hx
theorem Rel.killAll : ∀ (os : List Oper) {st : St}, Rel X own0 w0 st a w g → Rel X own0 w0 (killAll st os) a w g
  | [], st, h => h
  | o :: os, st, h => by
    unfold Eng.killAll
    refine Rel.killAll os ?_
    split
    · exact h.forget o.dst
    · exact h
theorem Rel.lit (h : Rel X own0 w0 st a w g) {t : Tmp} {sv : SV} (hs : SVR X w st.rt g sv (a.tmps.getD t undef)) : Rel X own0 w0 { st with sl := st.sl.set t sv } a w g := by
  refine ⟨⟨h.mem.rt, h.mem.lt, h.mem.ob, h.mem.n0, h.mem.np, h.mem.nl, h.mem.pm, h.mem.pv⟩, by show (st.sl.set t _).length ≤ _; rw [List.length_set]; exact h.sz, fun i x hx => ?_, h.df, h.fr⟩
  have hx2 : (st.sl.set t sv)[i]? = some x := hx
  clear hx
  rw [List.getElem?_set] at hx2
  split at hx2
  · rename_i hi; subst hi
    split at hx2
    · obtain rfl := Option.some.inj hx2; exact hs
    · cases hx2
  · exact h.sl i x hx2
/-- Whether an operation is carried out. -/
theorem wantedK_sound (h : Rel X own0 w0 st a w g) {ops : Array Oper} {o : Oper} {yes no : St → Option R} {r : R} (hq : wantedK ops.toList o st yes no = some r) :
    ∃ st', Rel X own0 w0 st' a w g ∧ st'.rt = st.rt ∧ ((Region.wanted o (yielded ops a.tmps) = true ∧ yes st' = some r) ∨ (Region.wanted o (yielded ops a.tmps) = false ∧ no st' = some r)) := by
  unfold wantedK at hq
  split at hq
  · rename_i hg
    exact ⟨st, h, rfl, .inl ⟨by unfold Region.wanted; rw [hg], hq⟩⟩
  · rename_i j want hg
    split at hq
    · cases hq
    · rename_i t ht
      have ht' : (ops[j]?).bind (·.dst) = some t := by rw [← Array.getElem?_toList]; exact ht
      have hsv : SVR X w st.rt g (st.sl.getD t .no) (a.tmps.getD t undef) := ev_sound h (.tmp t)
      have hw : Region.wanted o (yielded ops a.tmps) = (yielded ops a.tmps j == some want) := by unfold Region.wanted; rw [hg]
      have hy : yielded ops a.tmps j = match a.tmps[t]? with | some (.bool b) => some b | _ => none := by
        unfold yielded; rw [ht']; rfl
      have hlt : st.sl.getD t .no ≠ .no → t < a.tmps.size := fun hn => by
        refine Nat.lt_of_lt_of_le ?_ h.sz
        rcases Nat.lt_or_ge t st.sl.length with hl | hl
        · exact hl
        · exact absurd (by rw [List.getD_eq_getElem?_getD, List.getElem?_eq_none hl]; rfl) hn
      have hget : ∀ {v}, t < a.tmps.size → a.tmps.getD t undef = v → a.tmps[t]? = some v := fun hl hv => by
        rw [Array.getElem?_eq_getElem hl, ← hv]
        simp [Array.getD, hl]
      split at hq
      · rename_i b hb
        rw [hb] at hsv
        have hv : a.tmps.getD t undef = .bool b := hsv
        have hv' := hget (hlt (by rw [hb]; simp)) hv
        rw [hv'] at hy
        have hy : yielded ops a.tmps j = some b := hy
        have hl := h.lit (t := t) (sv := .c (.bool b)) (by rw [hv]; rfl)
        rw [hw, hy]
        cases b <;> cases want <;> simp only [cond_true, cond_false, if_true, Bool.false_eq_true, if_false] at hq
        · exact ⟨_, hl, rfl, .inl ⟨rfl, hq⟩⟩
        · exact ⟨_, hl, rfl, .inr ⟨rfl, hq⟩⟩
        · exact ⟨_, hl, rfl, .inr ⟨rfl, hq⟩⟩
        · exact ⟨_, hl, rfl, .inl ⟨rfl, hq⟩⟩
      · rename_i hb
        rw [hb] at hsv
        have hv : a.tmps.getD t undef = undef := hsv
        have hv' := hget (hlt (by rw [hb]; simp)) hv
        rw [hv'] at hy
        have hy : yielded ops a.tmps j = none := hy
        exact ⟨st, h, rfl, .inr ⟨by rw [hw, hy]; rfl, hq⟩⟩
      · cases hq
theorem runOps_sound (hE : EnvOk P X.T E) {ops : Array Oper} {Q : Exit → Act → World → Prop} {K : St → Option R} {r : R} (hK : ∀ st' a' w' g', Rel X own0 w0 st' a' w' g' → K st' = some r → Q .normal a' w') :
    ∀ (os : List Oper) {st : St} {a : Act} {w : World} {g : Gh}, Rel X own0 w0 st a w g → runOps E ops.toList os st K = some r → wpList P ops Q os a w
  | [], st, a, w, g, h, hq => hK st a w g h hq
  | o :: os, st, a, w, g, h, hq => by
    unfold runOps at hq
    obtain ⟨st1, h1, _, h2⟩ := wantedK_sound h hq
    unfold wpList
    rcases h2 with ⟨h2, h3⟩ | ⟨h2, h3⟩
    · rw [if_pos h2]
      obtain ⟨st2, h4, h5⟩ := opK_sound hE h1 h3
      rw [fSt_eq] at h4
      refine .inl (h5 _ _ fun a' w' g' h6 => ?_)
      split at h4
      · exact runOps_sound hE hK os (h6.killAll ops.toList) h4
      · exact runOps_sound hE hK os h6 h4
    · rw [if_neg (by rw [h2]; simp)]
      rw [fSt_eq] at h3
      exact runOps_sound hE hK os (h1.put o.dst (sv := .ud) rfl) h3
end
end Go.Proofs.Ytlblehdenhpijaa.Eng
