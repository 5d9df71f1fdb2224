/- The evaluator, part 37: arguments that are read, as data; a law's call. Of no program. -/
import Derived.Test.YtlblehdenhpijaaE36
import Derived.ChangeArms
import Derived.WideShapes
namespace Go.Proofs.Ytlblehdenhpijaa.Eng
open Go.RowKit Go.WideShapes
set_option linter.unusedVariables false

/-- Data of a type. -/
inductive WT (T : Tab) : CT → U → Prop
  | int (k : IntKind) (n : Int) (h : (Lit.int k n).wf = true) : WT T (.int k) (.int n)
  | bool (b : Bool) : WT T .bool (.bool b)
  | str (s : ByteArray) (h : s.size ≤ maxLen) : WT T .str (.str s)
  | slc (e : TypeId) (xs : List (List U)) (hm : xs.length ≤ 9223372036854775807) (hs : ∀ (i : Nat) (x : List U), xs[i]? = some x → x.length = (T e).length)
      (h : ∀ (i j : Nat) (x : List U) (u : U) (ct : CT), xs[i]? = some x → x[j]? = some u → (T e)[j]? = some ct → WT T ct u) : WT T (.slc e) (.lst xs)
def WTs (T : Tab) (cts : List CT) (us : List U) : Prop := us.length = cts.length ∧ ∀ (j : Nat) (ct : CT) (u : U), cts[j]? = some ct → us[j]? = some u → WT T ct u
/-- Types that refer to each other only. -/
def offsOk (T : Tabs) : Nat → List (TypeId × Nat) → List CT → Bool
  | _, [], cts => cts.isEmpty
  | o, (ft, off) :: fs, cts => off == o && decide (cts.take (T.size ft) = T.ct ft) && offsOk T (o + T.size ft) fs (cts.drop (T.size ft))
def closedL (T : Tabs) (L : List TypeId) : Bool := L.all fun t => match (T.row t).d with
  | .one (.slc e) => L.elem e && decide (T.size e ≠ 0)
  | .one _ => true
  | .st fs => fs.all (fun f => L.elem f.1) && offsOk T 0 fs (T.ct t)
  | _ => false

section
variable {P : Program} {T : Tabs} {H : Type} {enc : TypeId × Value → H} {w : World} {base : Nat} {spare : Nat → Bool} {held : Bool} {okb : Nat → Prop}
def RepWT (T : Tabs) (w : World) (okb : Nat → Prop) (cts : List CT) (us : List U) (cs : List Value) : Prop :=
  us.length = cts.length ∧ cs.length = cts.length ∧ ∀ (j : Nat) ct u c, cts[j]? = some ct → us[j]? = some u → cs[j]? = some c → RepR T.ct w okb ct u c ∧ WT T.ct ct u
theorem RepWT.one {ct : CT} {u : U} {c : Value} (h : RepR T.ct w okb ct u c) (h' : WT T.ct ct u) : RepWT T w okb [ct] [u] [c] := by
  refine ⟨rfl, rfl, fun j ct' u' c' h1 h2 h3 => ?_⟩
  cases j with
  | zero => simp at h1 h2 h3; subst h1 h2 h3; exact ⟨h, h'⟩
  | succ j => simp at h1
theorem RepWT.append {cts cts' : List CT} {us us' : List U} {cs cs' : List Value} (h : RepWT T w okb cts us cs) (h' : RepWT T w okb cts' us' cs') : RepWT T w okb (cts ++ cts') (us ++ us') (cs ++ cs') := by
  obtain ⟨a1, a2, a3⟩ := h
  obtain ⟨b1, b2, b3⟩ := h'
  refine ⟨by simp [a1, b1], by simp [a2, b2], fun j ct u c h1 h2 h3 => ?_⟩
  by_cases hj : j < cts.length
  · rw [List.getElem?_append_left hj] at h1
    rw [List.getElem?_append_left (by omega)] at h2 h3
    exact a3 j ct u c h1 h2 h3
  · rw [List.getElem?_append_right (by omega)] at h1 h2 h3
    rw [a1] at h2
    rw [a2] at h3
    exact b3 _ ct u c h1 h2 h3
theorem fields_rep {L : List TypeId} {n : Nat} (ih : ∀ (t : TypeId) (cs : List Value) (x : DataW H × List MemPlace), t ∈ L → DataW.trod enc P w base spare held n t cs = some x → ∃ us, RepWT T w okb (T.ct t) us cs) {cs : List Value} : ∀ (fs : List (TypeId × Nat)) (o : Nat) (cts : List CT), offsOk T o fs cts = true → cs.length = o + cts.length →
    (∀ f ∈ fs, f.1 ∈ L ∧ ∃ x, DataW.trod enc P w base spare held n f.1 ((cs.drop f.2).take (T.size f.1)) = some x) → ∃ us, RepWT T w okb cts us (cs.drop o)
  | [], o, cts, h, hl, _ => by
    have h : cts.isEmpty = true := h
    obtain rfl : cts = [] := by simpa using h
    have : cs.drop o = [] := List.drop_eq_nil_of_le (by simp at hl; omega)
    rw [this]
    exact ⟨[], rfl, rfl, fun j ct u c h1 => by simp at h1⟩
  | (ft, off) :: fs, o, cts, h, hl, hf => by
    simp only [offsOk, Bool.and_eq_true, beq_iff_eq, decide_eq_true_eq] at h
    obtain ⟨⟨rfl, h1⟩, h2⟩ := h
    have hle : (cts.take (T.size ft)).length = T.size ft := by rw [h1]; rfl
    rw [List.length_take] at hle
    obtain ⟨m, x, hx⟩ := hf (ft, off) (by simp)
    obtain ⟨us1, q1⟩ := ih _ _ _ m hx
    obtain ⟨us2, q2⟩ := fields_rep ih fs (off + T.size ft) (cts.drop (T.size ft)) h2 (by rw [List.length_drop]; omega) (fun f hf' => hf f (by simp [hf']))
    refine ⟨us1 ++ us2, ?_⟩
    have := q1.append q2
    have e1 : T.ct ft ++ cts.drop (T.size ft) = cts := by rw [← h1, List.take_append_drop]
    have e2 : (cs.drop off).take (T.size ft) ++ cs.drop (off + T.size ft) = cs.drop off := by rw [← List.drop_drop, List.take_append_drop]
    rw [e1] at this
    simp only at this
    rw [e2] at this
    exact this
theorem open_rep (hT : TabOk P T) {L : List TypeId} (hL : closedL T L = true) (hok : ∀ b, b < w.heap.size → okb b) : ∀ (fuel : Nat) (t : TypeId) (cs : List Value) (x : DataW H × List MemPlace), t ∈ L → DataW.trod enc P w base spare held fuel t cs = some x → ∃ us, RepWT T w okb (T.ct t) us cs
  | 0, t, cs, x, _, h => by simp [DataW.trod] at h
  | n + 1, t, cs, x, ht, h => by
    have ih := open_rep hT hL hok n
    have hc := List.all_eq_true.1 hL t ht
    have cellsOf : ∀ {t}, (T.row t).d.known = true → P.cellsOf t = T.size t := fun {t} hk => by
      obtain ⟨i, desc, h1, h2, h3, _⟩ := hT.ok t hk
      simp [Program.cellsOf, h1, h3]
    have known : ∀ {t}, t ∈ L → (T.row t).d.known = true := fun {t} ht => by
      have := List.all_eq_true.1 hL t ht
      cases hd : (T.row t).d with
      | other => rw [hd] at this; simp at this
      | _ => rfl
    obtain ⟨i, desc, h1, h2, h3, h4, h5, h6⟩ := hT.ok t (known ht)
    cases hd : (T.row t).d with
    | one c =>
      have hct := hT.one t c hd
      rw [hct]
      rw [hd] at h6 hc
      cases c with
      | int k =>
        cases desc <;> simp only [descOk] at h6
        subst h6
        obtain ⟨m, rfl, _, hw⟩ := DataW.trod_int h2 h
        exact ⟨[.int m], RepWT.one (.int _ _) (.int _ _ hw)⟩
      | bool =>
        cases desc <;> simp only [descOk] at h6
        obtain ⟨b, rfl, _⟩ := DataW.trod_bool h2 h
        exact ⟨[.bool b], RepWT.one (.bool _) (.bool _)⟩
      | str =>
        cases desc <;> simp only [descOk] at h6
        obtain ⟨s, rfl, _, hs⟩ := DataW.trod_string h2 h
        exact ⟨[.str s], RepWT.one (.str _) (.str _ hs)⟩
      | slc e =>
        cases desc <;> simp only [descOk] at h6
        subst h6
        simp only [Bool.and_eq_true, decide_eq_true_eq] at hc
        have he : e ∈ L := by simpa using hc.1
        have hce := cellsOf (known he)
        rcases DataW.trod_slice h2 h with ⟨rfl, _⟩ | ⟨a, len, cap, elems, rest, m, hfm, rfl, _, _, hlc, hcm, hel, hget, _, _⟩
        · exact ⟨[.lst []], RepWT.one (RepR.nil e 0 none) (.slc e [] (by simp) (fun i x h => by simp at h) (fun i j x u ct h => by simp at h))⟩
        · obtain rfl : n = m := by omega
          have key : ∀ i, i < len → ∃ us : List U, ∃ cs', w.cells? base (a.add (i * T.size e)) (T.size e) = some cs' ∧ RepWT T w okb (T.ct e) us cs' := by
            intro i hi
            have q1 := hget i hi
            rw [List.getElem?_eq_getElem (by omega), hce] at q1
            obtain ⟨cs', q2, q3⟩ := Option.bind_eq_some_iff.1 q1
            obtain ⟨us, q4⟩ := ih e cs' _ he q3
            exact ⟨us, cs', q2, q4⟩
          classical
          have hex : ∃ xs : List (List U), xs.length = len ∧ ∀ i x, xs[i]? = some x → ∃ cs', w.cells? base (a.add (i * T.size e)) (T.size e) = some cs' ∧ RepWT T w okb (T.ct e) x cs' := by
            refine ⟨List.ofFn (fun i : Fin len => Classical.choose (key i.1 i.2)), by simp, ?_⟩
            intro i p hp
            have hi : i < len := by
              have := (List.getElem?_eq_some_iff.1 hp).1
              simpa using this
            rw [List.getElem?_eq_getElem (by simpa using hi)] at hp
            simp only [List.getElem_ofFn, Option.some.injEq] at hp
            rw [← hp]
            exact Classical.choose_spec (key i hi)
          obtain ⟨xs, hl, hxs⟩ := hex
          have hlen : xs.length ≤ 9223372036854775807 := by rw [hl]; exact Nat.le_trans hlc hcm
          -- where the row lies
          have hcell : ∀ (i j : Nat) (x : List U), xs[i]? = some x → j < T.size e → ∃ cs' : List Value, ∃ c, RepWT T w okb (T.ct e) x cs' ∧ cs'[j]? = some c ∧ w.cell? ((a.add (i * T.size e)).add j) = some c := by
            intro i j x hx hj
            obtain ⟨cs', q1, q2⟩ := hxs i x hx
            obtain ⟨_, q3, q4⟩ := World.cells?_some q1
            have hjl : j < cs'.length := by rw [q3]; exact hj
            exact ⟨cs', cs'[j], q2, List.getElem?_eq_getElem hjl, by rw [q4 j hj]; exact List.getElem?_eq_getElem hjl⟩
          have hspot : 0 < xs.length → ∃ b o, a = ⟨b, o, none⟩ ∧ b < w.heap.size := by
            intro h0
            obtain ⟨cs', c, _, _, q3⟩ := hcell 0 0 xs[0] (List.getElem?_eq_getElem h0) (Nat.pos_of_ne_zero hc.2)
            rw [Nat.zero_mul] at q3
            have e0 : (a.add 0).add 0 = a := rfl
            rw [e0] at q3
            have hsp := World.cell?_spot q3
            obtain ⟨b, o, sp⟩ := a
            simp only at hsp
            subst hsp
            refine ⟨b, o, rfl, ?_⟩
            unfold World.cell? at q3
            split at q3
            · rename_i hb; exact (Array.getElem?_eq_some_iff.1 hb).1
            · cases q3
          let V : Nat → Nat → Value := fun i j => ((w.cell? ((a.add (i * T.size e)).add j))).getD undef
          have hV : ∀ (i j : Nat) (x : List U) c, xs[i]? = some x → w.cell? ((a.add (i * T.size e)).add j) = some c → V i j = c := fun i j x c _ hc' => by show (w.cell? _).getD undef = c; rw [hc']; rfl
          have hsz : ∀ (i : Nat) (x : List U), xs[i]? = some x → x.length = (T.ct e).length := fun i x hx => (hxs i x hx).choose_spec.2.1
          have hrep : ∀ (i j : Nat) (x : List U) (u : U) (ct : CT), xs[i]? = some x → x[j]? = some u → (T.ct e)[j]? = some ct → RepR T.ct w okb ct u (V i j) ∧ WT T.ct ct u := by
            intro i j x u ct hx hu hct
            obtain ⟨cs', c, q1, q2, q3⟩ := hcell i j x hx (lt_of_some hct)
            rw [hV i j x c hx q3]
            exact q1.2.2 j ct u c hct hu q2
          refine ⟨[.lst xs], RepWT.one ?_ (.slc e xs hlen hsz fun i j x u ct hx hu hct => (hrep i j x u ct hx hu hct).2)⟩
          rw [← hl]
          refine .slc e xs (some a) cap V (by omega) hlen (fun h0 => ?_) hsz fun i j x u ct hx hu hct => (hrep i j x u ct hx hu hct).1
          obtain ⟨b, o, rfl, hb⟩ := hspot h0
          refine ⟨b, o, rfl, hok b hb, fun i j x hx hj => ?_⟩
          obtain ⟨cs', c, q1, q2, q3⟩ := hcell i j x hx (by rw [hsz i x hx] at hj; exact hj)
          rw [hV i j x c hx q3, ← q3, Addr.add_lit, Addr.add_lit, Nat.add_assoc]
          rfl
    | st fs =>
      rw [hd] at h6 hc
      cases desc <;> simp only [descOk] at h6
      rename_i fields
      simp only [Bool.and_eq_true] at hc
      obtain ⟨xs, m, hfm, rfl, hcl, hn, hg⟩ := DataW.trod_struct h2 h
      obtain rfl : n = m := by omega
      have hsz := cellsOf (known ht)
      obtain ⟨us, hus⟩ := fields_rep (L := L) (T := T) ih fs 0 (T.ct t) hc.2 (by rw [hcl, hsz, Nat.zero_add]; rfl) (fun f hf => by
        have hfL : f.1 ∈ L := by simpa using List.all_eq_true.1 hc.1 f hf
        refine ⟨hfL, ?_⟩
        rw [← h6] at hf
        obtain ⟨fld, hfld, rfl⟩ := List.mem_map.1 hf
        obtain ⟨k, hk⟩ := List.getElem?_of_mem hfld
        have hk' : fields[k]? = some fld := by simpa using hk
        have hlt : k < fields.size := (Array.getElem?_eq_some_iff.1 hk').1
        exact ⟨xs[k]'(by omega), by
          show DataW.trod enc P w base spare held n fld.type ((cs.drop fld.offset).take (T.size fld.type)) = _
          rw [← cellsOf (known hfL), hg k fld hk', List.getElem?_eq_getElem (by omega)]⟩)
      exact ⟨us, by rw [List.drop_zero] at hus; exact hus⟩
    | arr k e => rw [hd] at hc; simp at hc
    | other => rw [hd] at hc; simp at hc
/-- An argument, as the evaluator takes it. -/
def argSV (T : Tabs) (t : TypeId) (us : List U) : SV := pack (T.agg t) (cellsR (T.ct t) us 0 (T.size t))
theorem okWide_shape (hT : TabOk P T) {t : TypeId} (ht : (T.row t).d.known = true) {v : Value} (h : Value.okWide P w .any base t v) : (T.agg t = true → ∃ cs, v = .agg cs) ∧ (T.agg t = false → v.cells = #[v]) := by
  obtain ⟨i, desc, h1, h2, h3, h4, h5, h6⟩ := hT.ok t ht
  cases hd : (T.row t).d with
  | one c =>
    rw [hd] at h6
    refine ⟨fun ha => (by rw [Tabs.agg, hd] at ha; cases ha), fun _ => ?_⟩
    cases c with
    | int k =>
      cases desc <;> simp only [descOk] at h6
      obtain ⟨n, rfl⟩ := okWide_int h2 h; rfl
    | bool =>
      cases desc <;> simp only [descOk] at h6
      obtain ⟨n, rfl⟩ := okWide_bool h2 h; rfl
    | str =>
      cases desc <;> simp only [descOk] at h6
      obtain ⟨n, rfl⟩ := okWide_string h2 h; rfl
    | slc e =>
      cases desc <;> simp only [descOk] at h6
      obtain ⟨a, l, c, rfl⟩ := okWide_slice h2 h; rfl
  | st fs =>
    rw [hd] at h6
    refine ⟨fun _ => ?_, fun ha => (by rw [Tabs.agg, hd] at ha; cases ha)⟩
    cases desc <;> simp only [descOk] at h6
    unfold Value.okWide at h
    rw [h2] at h
    exact ⟨_, h.choose_spec.1⟩
  | arr k e =>
    rw [hd] at h6
    refine ⟨fun _ => ?_, fun ha => (by rw [Tabs.agg, hd] at ha; cases ha)⟩
    cases desc <;> simp only [descOk] at h6
    unfold Value.okWide at h
    rw [h2] at h
    exact ⟨_, h.choose_spec.1⟩
  | other => rw [hd] at ht; cases ht
end
/-- What the callee may read at first. -/
def ctx0 (T : Tabs) (w : World) : Ctx := ⟨T, fun b => b < w.heap.size, w.heap.size, 0, fun _ => undef, fun _ => none⟩
def gh0 : Gh := ⟨fun _ => none, fun _ => undef, fun _ => 0⟩
theorem mem0 (T : Tabs) (w : World) (svs : List SV) : Mem (ctx0 T w) ⟨svs, [], 0⟩ w gh0 :=
  ⟨fun r x hx => by simp at hx, fun b hb => absurd rfl hb, fun b r hb => (by cases hb), Nat.le_refl _, rfl, Nat.zero_le _, fun b r hb => (by cases hb), fun r hr => absurd hr (Nat.not_lt_zero _)⟩
theorem arg_open {P : Program} {T : Tabs} (hT : TabOk P T) {L : List TypeId} (hL : closedL T L = true) {H : Type} {enc : TypeId × Value → H} {w : World} {spare : Nat → Bool} {held : Bool} {t : TypeId} (ht : t ∈ L) {v : Value} {d : DataW H} {ps : List MemPlace}
    (h : DataW.Trod enc P w 0 spare held t v d ps) {base : Nat} (hv : Value.okWide P w .any base t v) : ∃ us, WTs T.ct (T.ct t) us ∧ SVR (ctx0 T w) w [] gh0 (argSV T t us) v := by
  obtain ⟨fuel, hf⟩ := h
  obtain ⟨us, h1, h2, h3⟩ := open_rep (okb := okb (ctx0 T w) w gh0) hT hL (fun b hb => ⟨rfl, hb, .inl hb⟩) fuel t _ _ ht hf
  have known : (T.row t).d.known = true := by
    have := List.all_eq_true.1 hL t ht
    cases hd : (T.row t).d with
    | other => rw [hd] at this; simp at this
    | _ => rfl
  refine ⟨us, ⟨h1, fun j ct u hct hu => ?_⟩, ?_⟩
  · have hj : j < v.cells.toList.length := by rw [h2]; exact lt_of_some hct
    exact (h3 j ct u _ hct hu (List.getElem?_eq_getElem hj)).2
  · have hcl : ClsR (ctx0 T w) w [] gh0 (cellsR (T.ct t) us 0 (T.size t)) v.cells.toList := by
      refine ClsR.ofGet ?_ fun j x c hx hc => ?_
      · rw [cellsR_len, h2, List.drop_zero, List.take_of_length_le (show (T.ct t).length ≤ T.size t from Nat.le_refl _)]
      · obtain ⟨_, ct, hct, rfl⟩ := cellsR_get hx
        rw [Nat.zero_add] at hct ⊢
        have hj : j < us.length := by rw [h1]; exact lt_of_some hct
        have hu : us[j]? = some (us.getD j U0) := by rw [List.getD_eq_getElem?_getD, List.getElem?_eq_getElem hj]; rfl
        exact ClR.ofU (h3 j ct _ c hct hu hc).1
    obtain ⟨s1, s2⟩ := okWide_shape hT known hv
    unfold argSV pack
    cases ha : T.agg t with
    | true =>
      obtain ⟨cs, rfl⟩ := s1 ha
      exact ⟨cs, rfl, hcl⟩
    | false =>
      rw [s2 ha] at hcl
      have hl := hcl.length
      rw [if_neg (by simp)]
      generalize cellsR (T.ct t) us 0 (T.size t) = cl at hcl hl
      match cl, hcl with
      | [x], hcl => exact SVR.ofCl hcl.1
/-- A law's call: it answers true, and changes nothing. -/
theorem law_calls {P : Program} {T : Tabs} {sig : FuncId → Sig} {D : Den} (hS : Sound P T sig D) {f : FuncId} {fn : Func} (hfn : P.funcs[f]? = some fn) {tb : TypeId} (hr : fn.resultTypes.toList = [tb]) (hb : T.ct tb = [.bool]) (hk : (T.row tb).d.known = true) (ha : T.agg tb = false) {svs : List SV}
    (h : D f svs [] = some ⟨[[.bool true]], []⟩) {w : World} {args : Array Value} (hs : SvsR (ctx0 T w) w [] gh0 svs args.toList) : Calls P f args w fun e w' => e = .returned (.bool true) ∧ Below w.heap.size w w' := by
  obtain ⟨fn', h1, _, h2⟩ := hS f svs [] _ h
  obtain rfl : fn = fn' := Option.some.inj (hfn.symm.trans h1)
  rw [hr] at h2
  refine (h2 (fun t ht => by rw [List.mem_singleton.1 ht]; exact hk) (ctx0 T w) w gh0 args rfl rfl (mem0 T w svs) hs).mono fun e w' => ?_
  rintro ⟨v, rfl, g', _, hfr, hv⟩
  have hv' : v = .bool true := by
    have e1 : results1 T (sig f).rs [tb] [[U.bool true]] 0 0 = ([(false, [.bool true])], []) := by
      simp only [results1, hb, ha, resCells]
      rfl
    have hv : SVR (ctx0 T w) w' _ g' (resSV (results1 T (sig f).rs [tb] [[U.bool true]] 0 0).1) v := hv
    rw [e1] at hv
    exact hv
  subst hv'
  exact ⟨rfl, ⟨hfr.os, hfr.tape, hfr.output, hfr.size, fun b hb => (hfr.block b hb rfl).2⟩⟩
end Go.Proofs.Ytlblehdenhpijaa.Eng
