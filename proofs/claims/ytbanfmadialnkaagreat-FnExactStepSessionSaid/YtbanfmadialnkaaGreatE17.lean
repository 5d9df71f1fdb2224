/- The evaluator: parts 10 to 17. Of no program. -/
import Derived.Test.YtbanfmadialnkaaGreatE9
import Derived.Laws.MakeOwn
import Derived.Laws.CopyRow
namespace Go.Proofs.YtbanfmadialnkaaGreat.Eng
open Go.RowKit
set_option linter.unusedVariables false
def gp (cs : List Value) (o : Nat) : List Value → List Value
 | [] => cs
 | u :: us => gp (cs.set o u) (o + 1) us
theorem BT : ∀ (us cs : List Value) (o : Nat), (gp cs o us).length = cs.length
 | [], cs, o => rfl
 | u :: us, cs, o => by unfold gp; rw [BT us]; exact List.length_set
theorem xc : ∀ (us cs : List Cl) (o : Nat), (fO cs o us).length = cs.length
 | [], cs, o => rfl
 | u :: us, cs, o => by unfold fO; rw [xc us]; exact List.length_set
theorem xd : ∀ (us cs : List Value) (o i : Nat), o + us.length ≤ cs.length → (gp cs o us)[i]? = if o ≤ i ∧ i < o + us.length then us[i - o]? else cs[i]?
 | [], cs, o, i, h => by unfold gp; rw [if_neg (by simp only [List.length_nil]; omega)]
 | u :: us, cs, o, i, h => by
  unfold gp
  rw [xd us (cs.set o u) (o + 1) i (by simp at h ⊢; omega)]
  simp only [List.length_cons] at h ⊢
  by_cases h1 : i = o
  ·subst h1
   rw [if_neg (by omega), if_pos (by omega), List.getElem?_set_self (by omega), Nat.sub_self]
   rfl
  ·by_cases h2 : o + 1 ≤ i ∧ i < o + 1 + us.length
   ·rw [if_pos h2, if_pos (by omega)]
    obtain ⟨k, rfl⟩ : ∃ k, i = o + 1 + k := ⟨i - (o + 1), by omega⟩
    rw [show o + 1 + k - (o + 1) = k from by omega, show o + 1 + k - o = k + 1 from by omega]; rfl
   ·rw [if_neg h2, if_neg (by omega), List.getElem?_set_ne (by omega)]
theorem av.fj {X : Ctx} {w : World} {rt : List aa} {g : Gh} : ∀ {xs : List Cl} {vs : List Value} {cs : List Cl} {us : List Value} (o : Nat), av X w rt g cs us → av X w rt g xs vs → av X w rt g (fO cs o xs) (gp us o vs)
 | [], [], cs, us, o, h, _ => h
 | x :: xs, v :: vs, cs, us, o, h, k => av.fj (o + 1) (h.set k.1) k.2
 | [], _ :: _, _, _, _, _, k => k.elim
 | _ :: _, [], _, _, _, _, k => k.elim
theorem yD (vs : List Value) : ∀ (k o : Nat) (cs : Array Value), ((vs.zipIdx k).foldl (fun (cs : Array Value) (x : Value × Nat) => cs.setIfInBounds (o + x.2) x.1) cs).toList = gp cs.toList (o + k) vs := by
 induction vs with
 | nil => intro k o cs; rfl
 | cons v vs ih =>
  intro k o cs
  rw [List.zipIdx_cons, List.foldl_cons, ih (k + 1) o]
  simp only [Array.toList_setIfInBounds]
  rfl
theorem yE (vs : Array Value) (o : Nat) (cs : Array Value) : (vs.zipIdx.foldl (fun (cs : Array Value) (x : Value × Nat) => cs.setIfInBounds (o + x.2) x.1) cs).toList = gp cs.toList o vs.toList := by
 rw [← Array.foldl_toList, Array.toList_zipIdx]
 have := yD vs.toList 0 o cs
 simpa using this
section
variable {P : Program} {X : Ctx} {own0 : Nat → Option Nat} {w0 : World} {st : St} {a : Act} {w : World} {g : Gh}
theorem AX {v : Value} (h : v.oneCell' = true) : v.cells = #[v] := by cases v <;> first | rfl | cases h
theorem qc (h : Rel X own0 w0 st a w g) {x : SV} {v : Value} {cs : List Cl} (hx : az X w st.rt g x v) (hq : gC x = some cs) : av X w st.rt g cs v.cells.toList := by
 unfold gC at hq
 split at hq <;> try (cases hq; done)
 ·rename_i c aS
  obtain rfl := Option.some.inj hq
  have h1 := hx.cl aS
  rw [AX (h1.one h.mem)]
  exact ⟨h1, trivial⟩
 ·obtain rfl := Option.some.inj hq
  obtain ⟨vs, rfl, h1⟩ := hx
  exact h1
theorem nZ (h : Rel X own0 w0 st a w g) (place : Nat → Option (Nat × Nat)) : ∀ (ps : List (Nat × Operand)) {cs cs' : List Cl} {vs : Array Value}, av X w st.rt g cs vs.toList → dQ place (ev st) cs ps = some cs' →
  ∃ vs', Instr.fill place vs (ps.map fun x => (x.1, a.eval x.2)) = some vs' ∧ av X w st.rt g cs' vs'.toList ∧ cs'.length = cs.length
 | [], cs, cs', vs, hc, hq => by obtain rfl := Option.some.inj hq; exact ⟨vs, rfl, hc, rfl⟩
 | (i, x) :: ps, cs, cs', vs, hc, hq => by
  unfold dQ at hq
  split at hq
  ·rename_i o n b hp aL
   split at hq
   ·rename_i hh
    have h1 := qc h (aX h x) aL
    have dV := h1.length
    have re := hc.length
    simp only [Array.length_toList] at dV re
    obtain ⟨vs', h2, h3, h4⟩ := nZ h place ps (cs := fO cs o b) (vs := (a.eval x).cells.zipIdx.foldl (fun (cs : Array Value) (y : Value × Nat) => cs.setIfInBounds (o + y.2) y.1) vs)
     (by rw [yE]; exact hc.fj o h1) hq
    refine ⟨vs', ?_, h3, h4.trans (xc _ _ _)⟩
    simp only [List.map_cons, Instr.fill, hp]
    rw [if_neg]
    ·exact h2
    ·simp only [Bool.or_eq_true, decide_eq_true_eq, not_or, ne_eq, Decidable.not_not]
     omega
   ·cases hq
  ·cases hq
theorem pB (X : Ctx) {w : World} {rt : List aa} {g : Gh} : ∀ (ai : List CT), av X w rt g (ai.map eE) (ai.map zeroV)
 | [] => trivial
 | c :: ai => ⟨by cases c <;> rfl, pB X ai⟩
theorem fu.nv (hT : aU P X.T) (t : TypeId) : (X.T.row t).zero.cells = ((X.T.ct t).map zeroV).toArray := by
 unfold fu.zero
 split
 ·rename_i c hd
  rw [hT.one t c hd]
  cases c <;> rfl
 ·rfl
theorem wU (hT : aU P X.T) {t : TypeId} (ht : (X.T.row t).d.known = true) : (zeroValue t).run P w = .ok (X.T.row t).zero w := by
 obtain ⟨i, desc, h1, h2, h3, h4, h5, h6⟩ := hT.ok t ht
 simp [zeroValue, typeInfo, h1, h5]
theorem wB (hT : aU P X.T) : ∀ (fl : List Field), (∀ f ∈ fl, (X.T.row f.type).d.known = true) → fl.mapM (fun f => (P.info? f.type).map fun i => (f.offset, i.size)) = some (fl.map fun f => (f.offset, X.T.size f.type))
 | [], _ => rfl
 | f :: fl, hk => by
  obtain ⟨i, desc, h1, h2, h3, _⟩ := hT.ok f.type (hk f (by simp))
  rw [List.mapM_cons, h1, wB hT fl fun x hx => hk x (by simp [hx])]
  simp [h3]
theorem pW (hT : aU P X.T) (h : Rel X own0 w0 st a w g) {t : TypeId} {parts : Array (Nat × Operand)} {sv : SV} (hq : dy X.T (ev st) t parts.toList some = some sv) :
  ∃ v, (Instr.build t (parts.map fun (x : Nat × Operand) => (x.1, a.eval x.2))).run P w = .ok v w ∧ az X w st.rt g sv v := by
 have hz : av X w st.rt g ((X.T.ct t).map eE) (X.T.row t).zero.cells.toList := by rw [fu.nv hT]; exact pB X _
 unfold dy at hq
 split at hq
 ·rename_i fs hd
  have ht : (X.T.row t).d.known = true := by rw [hd]; rfl
  obtain ⟨i, desc, h1, h2, h3, h4, h5, h6⟩ := hT.ok t ht
  rw [hd] at h6
  cases desc <;> try exact h6.elim
  rename_i fields
  simp only [cd] at h6
  split at hq
  ·rename_i bH
   split at hq
   ·rename_i cs hb
    obtain rfl := Option.some.inj hq
    obtain ⟨vs', h7, h8, h9⟩ := nZ h _ _ hz hb
    refine ⟨.agg vs', run_build (P := P) w t _ _ ?_, vs', rfl, h8⟩
    have fH := wB hT fields.toList (fun f hf => by
     have := List.all_eq_true.1 bH (f.type, f.offset) (by rw [← h6]; exact List.mem_map.2 ⟨f, hf, rfl⟩)
     exact this)
    have e1 : (fun (i : Nat) => (fs[i]?).map fun (f : TypeId × Nat) => (f.2, X.T.size f.1)) = fun (i : Nat) => ((fields.toList.map fun f => (f.offset, X.T.size f.type)).toArray[i]? : Option (Nat × Nat)) := by
     funext i
     rw [← h6]
     simp
     rfl
    rw [e1] at h7
    unfold Program.built
    simp only [h1, h2, h5, fH, Array.toList_map]
    exact h7
   ·cases hq
  ·cases hq
 ·rename_i n e hd
  have ht : (X.T.row t).d.known = true := by rw [hd]; rfl
  obtain ⟨i, desc, h1, h2, h3, h4, h5, h6⟩ := hT.ok t ht
  have yL := nq hT hd
  split at hq
  ·rename_i he
   obtain ⟨ie, _, g1, _, g3, _⟩ := hT.ok e he
   split at hq
   ·rename_i cs hb
    obtain rfl := Option.some.inj hq
    obtain ⟨vs', h7, h8, h9⟩ := nZ h _ _ hz hb
    refine ⟨.agg vs', run_build (P := P) w t _ _ ?_, vs', rfl, h8⟩
    unfold Program.built
    simp only [h1, yL, h5, g1, g3, Array.toList_map]
    exact h7
   ·cases hq
  ·cases hq
 ·cases hq
theorem Fr.new (hf : Fr own0 w0 w g) {w' : World} {g' : Gh} (h1 : w'.os = w.os) (h2 : w'.tape = w.tape) (h3 : w'.output = w.output) (h4 : w.heap.size ≤ w'.heap.size) (h5 : ∀ b, b < w.heap.size → w'.heap[b]? = w.heap[b]?) (h6 : ∀ b, b < w.heap.size → g.own b = none → g'.own b = none) : Fr own0 w0 w' g' :=
 ⟨h1.trans hf.os, h2.trans hf.tape, h3.trans hf.output, Nat.le_trans hf.size h4, fun b hb ho => by
  have au := Nat.lt_of_lt_of_le hb hf.size
  obtain ⟨h7, h8⟩ := hf.block b hb ho
  exact ⟨h6 b au h7, (h5 b au).trans h8⟩⟩
def Gh.new (g : Gh) (b n : Nat) (v : Value) : Gh := ⟨fun x => if x = b then some n else g.own x, fun r => if r = n then v else g.v r, fun r => if r = n then b else g.b r⟩
theorem mY (h : Rel X own0 w0 st a w g) {b : Nat} (hb : w.heap.size ≤ b) : g.own b = none := by
 cases hx : g.own b with
 | none => rfl
 | some r => have := h.mem.lt b (by rw [hx]; simp); omega
theorem Rel.vV (h : Rel X own0 w0 st a w g) (x : aa) (v : Value) {w' : World} {d : Nat} (h1 : w'.os = w.os) (h2 : w'.tape = w.tape) (h3 : w'.output = w.output) (h4 : w'.heap.size = w.heap.size + 1) (h5 : ∀ b, b < w.heap.size → w'.heap[b]? = w.heap[b]?)
  (hx : cr X w' (st.add x).rt (g.new w.heap.size st.rt.length v) st.rt.length x) : Rel X own0 w0 (st.add x) a w' (g.new w.heap.size st.rt.length v) := by
 have ho := mY h (Nat.le_refl w.heap.size)
 have kU : ∀ b, b ≠ w.heap.size → (g.new w.heap.size st.rt.length v).own b = g.own b := fun b hb => if_neg hb
 refine h.add x (fun b hb => ?_) (fun b r hb => ?_) (fun r hr => ?_) hx (fun b hb => ?_) (fun b s hb => ?_) (by omega) (fun b s hb => ?_) (h.fr.new h1 h2 h3 (by omega) h5 fun b hb hn => ?_)
 ·obtain ⟨e1, e2, e3⟩ := hb
  exact ⟨⟨by rw [kU b (by omega)]; exact e1, by omega, e3⟩, h5 b e2⟩
 ·have := h.mem.lt b (by rw [hb]; simp)
  exact ⟨by rw [kU b (by omega)]; exact hb, h5 b this⟩
 ·have aS : ¬ r = st.rt.length := by omega
  exact ⟨if_neg aS, if_neg aS⟩
 ·by_cases hbe : b = w.heap.size
  ·omega
  ·rw [kU b hbe] at hb; have := h.mem.lt b hb; omega
 ·by_cases hbe : b = w.heap.size
  ·have : (g.new w.heap.size st.rt.length v).own b = some st.rt.length := if_pos hbe
   rw [this] at hb; cases hb; omega
  ·rw [kU b hbe] at hb; have := h.mem.ob b s hb; omega
 ·by_cases hbe : b = w.heap.size
  ·exact .inl (h.mem.n0 _ (by omega))
  ·rw [kU b hbe] at hb; exact h.mem.pm b s hb
 ·rw [kU b (by omega)]; exact hn
theorem Rel.vU (h : Rel X own0 w0 st a w g) (t : TypeId) {cs : List Cl} {vs : Array Value} (hc : av X w st.rt g cs vs.toList) :
  ∃ g', Rel X own0 w0 (st.add (.box t cs)) a (w.alloc (.cells vs t)) g' ∧ az X (w.alloc (.cells vs t)) (st.add (.box t cs)).rt g' (.bx st.rt.length 0) (.pointer (some ⟨w.heap.size, 0, none⟩)) := by
 have hold : ∀ b, b < w.heap.size → (w.alloc (.cells vs t)).heap[b]? = w.heap[b]? := fun b hb => heap_alloc_old w _ b hb
 have kB := heap_alloc_new w (.cells vs t)
 have ho := mY h (Nat.le_refl w.heap.size)
 have qF : (st.add (.box t cs)).rt[st.rt.length]? = some (.box t cs) := by show (st.rt ++ [_])[st.rt.length]? = _; simp
 have hK : bJ X (fun _ => False) (fun _ => False) w g st.rt (w.alloc (.cells vs t)) (g.new w.heap.size st.rt.length undef) (st.add (.box t cs)).rt := by
  refine bJ.add st _ (fun b hb => ?_) (fun b r hb => ?_) (fun r hr => ?_)
  ·obtain ⟨e1, e2, e3⟩ := hb
   exact ⟨⟨by show (if b = w.heap.size then _ else g.own b) = none; rw [if_neg (by omega)]; exact e1, by show b < (w.heap.push _).size; rw [Array.size_push]; omega, e3⟩, hold b e2⟩
  ·have := h.mem.lt b (by rw [hb]; simp)
   exact ⟨by show (if b = w.heap.size then _ else g.own b) = _; rw [if_neg (by omega)]; exact hb, hold b this⟩
  ·have aS : ¬ r = st.rt.length := by omega
   exact ⟨if_neg aS, if_neg aS⟩
 refine ⟨g.new w.heap.size st.rt.length undef, h.vV (d := 0) _ _ rfl rfl rfl (by show (w.heap.push _).size = _; rw [Array.size_push]) hold ?_, ?_, t, cs, qF⟩
 ·refine ⟨vs, ?_, ?_, av.keep h.mem hK (fun x _ => Cl.dP x) hc⟩
  ·show (w.alloc _).heap[if st.rt.length = st.rt.length then w.heap.size else _]? = _
   rw [if_pos rfl]; exact kB
  ·show (if (if st.rt.length = st.rt.length then w.heap.size else _) = w.heap.size then some st.rt.length else _) = _
   rw [if_pos rfl, if_pos rfl]
 ·show _ = Value.pointer (some ⟨if st.rt.length = st.rt.length then w.heap.size else _, 0, none⟩)
  rw [if_pos rfl]
end
end Go.Proofs.YtbanfmadialnkaaGreat.Eng
namespace Go.Proofs.YtbanfmadialnkaaGreat.Eng
open Go.RowKit
set_option linter.unusedVariables false
section
variable {P : Program} {X : Ctx} {own0 : Nat → Option Nat} {w0 : World} {st : St} {a : Act} {w : World} {g : Gh}
theorem kQ : ∀ {l : List Nat}, cD l = true → l.Nodup
 | [], _ => List.nodup_nil
 | x :: xs, h => by
  simp only [cD, Bool.and_eq_true, Bool.not_eq_true', List.elem_eq_mem, decide_eq_false_iff_not] at h
  exact List.nodup_cons.2 ⟨h.1, kQ h.2⟩
theorem sE : ∀ {l : List Nat}, l.Nodup → cD l = true
 | [], _ => rfl
 | x :: xs, h => by
  simp only [cD, Bool.and_eq_true, Bool.not_eq_true', List.elem_eq_mem, decide_eq_false_iff_not]
  exact ⟨(List.nodup_cons.1 h).1, sE (List.nodup_cons.1 h).2⟩
def CF (g : Gh) (cls : List Cl) (j b : Nat) : Prop := ∃ r p e', cls[j]? = some (.al r p e') ∧ g.own b = some r
structure fm (X : Ctx) (st : St) (w : World) (g : Gh) (deep : Bool) (ai : List CT) (cls : List Cl) (vs : List Value) (us : List U) (rs : List Nat) : Prop where
 l1 : us.length = ai.length
 l2 : cls.length = ai.length
 own : deep = true → ∀ (j : Nat) u ct v, us[j]? = some u → ai[j]? = some ct → vs[j]? = some v → ao X.T.ct w (CF g cls j) ct u v
 rd : deep = false → ∀ (j : Nat) u ct v, us[j]? = some u → ai[j]? = some ct → vs[j]? = some v → aC X.T.ct w (ak X w g) ct u v
 mem : ∀ (j : Nat) r p e, cls[j]? = some (.al r p e) → r ∈ rs
 row : ∀ r ∈ rs, (∃ e xs, st.rt[r]? = some (.row e true xs)) ∧ st.np ≤ r
 jY : rs.Nodup → ∀ (i j : Nat) r p e p' e', cls[i]? = some (.al r p e) → cls[j]? = some (.al r p' e') → i = j
theorem fm.cons {deep : Bool} {ct : CT} {ai : List CT} {c : Cl} {cls : List Cl} {v : Value} {vs : List Value} {u : U} {us : List U} {rs : List Nat} (h : fm X st w g deep ai cls vs us rs)
  (hc : ∀ r p e, c ≠ .al r p e) (ho : deep = true → ao X.T.ct w (CF g (c :: cls) 0) ct u v) (hr : deep = false → aC X.T.ct w (ak X w g) ct u v) : fm X st w g deep (ct :: ai) (c :: cls) (v :: vs) (u :: us) rs := by
 refine ⟨by simp [h.l1], by simp [h.l2], fun hd j u' bn v' h1 h2 h3 => ?_, fun hd j u' bn v' h1 h2 h3 => ?_, fun j r p e hj => ?_, h.row, fun hn i j r p e p' e' hi hj => ?_⟩
 ·cases j with
  | zero => simp at h1 h2 h3; subst h1 h2 h3; exact ho hd
  | succ j =>
   refine (h.own hd j u' bn v' (by simpa using h1) (by simpa using h2) (by simpa using h3)).mono fun b hb => ?_
   obtain ⟨r, p, e, h4, h5⟩ := hb
   exact ⟨r, p, e, by simpa using h4, h5⟩
 ·cases j with
  | zero => simp at h1 h2 h3; subst h1 h2 h3; exact hr hd
  | succ j => exact h.rd hd j u' bn v' (by simpa using h1) (by simpa using h2) (by simpa using h3)
 ·cases j with
  | zero => simp at hj; exact absurd hj (hc r p e)
  | succ j => exact h.mem j r p e (by simpa using hj)
 ·cases i with
  | zero => simp at hi; exact absurd hi (hc r p e)
  | succ i => cases j with
   | zero => simp at hj; exact absurd hj (hc r p' e')
   | succ j => rw [h.jY hn i j r p e p' e' (by simpa using hi) (by simpa using hj)]
theorem fm.yc {ct : CT} {ai : List CT} {r0 : Nat} {e0 : TypeId} {cls : List Cl} {v : Value} {vs : List Value} {u : U} {us : List U} {rs : List Nat} (h : fm X st w g true ai cls vs us rs)
  (aG : (∃ e xs, st.rt[r0]? = some (.row e true xs)) ∧ st.np ≤ r0) (ho : ao X.T.ct w (fun b => g.own b = some r0) ct u v) : fm X st w g true (ct :: ai) (.al r0 [] e0 :: cls) (v :: vs) (u :: us) (r0 :: rs) := by
 refine ⟨by simp [h.l1], by simp [h.l2], fun hd j u' bn v' h1 h2 h3 => ?_, fun hd => (by cases hd), fun j r p e hj => ?_, fun r hr => ?_, fun hn i j r p e p' e' hi hj => ?_⟩
 ·cases j with
  | zero => simp at h1 h2 h3; subst h1 h2 h3; exact ho.mono fun b hb => ⟨r0, [], e0, rfl, hb⟩
  | succ j =>
   refine (h.own hd j u' bn v' (by simpa using h1) (by simpa using h2) (by simpa using h3)).mono fun b hb => ?_
   obtain ⟨r, p, e, h4, h5⟩ := hb
   exact ⟨r, p, e, by simpa using h4, h5⟩
 ·cases j with
  | zero => simp at hj; simp [hj.1]
  | succ j => exact List.mem_cons_of_mem _ (h.mem j r p e (by simpa using hj))
 ·rcases List.mem_cons.1 hr with rfl | hr
  ·exact aG
  ·exact h.row r hr
 ·have bT := List.nodup_cons.1 hn
  cases i with
  | zero => cases j with
   | zero => rfl
   | succ j => simp at hi; rw [← hi.1] at hj; exact absurd (h.mem j _ _ _ (by simpa using hj)) bT.1
  | succ i => cases j with
   | zero => simp at hj; rw [← hj.1] at hi; exact absurd (h.mem i _ _ _ (by simpa using hi)) bT.1
   | succ j => rw [h.jY bT.2 i j r p e p' e' (by simpa using hi) (by simpa using hj)]
theorem iG (hm : Mem X st w g) {deep : Bool} : ∀ {ai : List CT} {cls : List Cl} {vs : List Value} {us : List U} {rs : List Nat}, aK st.rt st.np deep ai cls = some (us, rs) → av X w st.rt g cls vs → fm X st w g deep ai cls vs us rs
 | [], [], [], us, rs, hq, _ => by
  cases hq
  exact ⟨rfl, rfl, fun _ j u ct v h => by simp at h, fun _ j u ct v h => by simp at h, fun j r p e h => by simp at h, fun r h => by simp at h, fun _ i j r p e p' e' h => by simp at h⟩
 | .aq e :: ts, .nil :: xs, v :: vs, us, rs, hq, hc => by
  unfold aK at hq
  obtain ⟨y, h1, h2⟩ := Option.map_eq_some_iff.1 hq
  cases h2
  obtain rfl : v = .slice none 0 0 := hc.1
  exact (iG hm h1 hc.2).cons (fun _ _ _ h => by cases h) (fun _ => ao.nil e) (fun _ => aC.nil e 0 none)
 | .aq e :: ts, .rd e' ys :: xs, v :: vs, us, rs, hq, hc => by
  unfold aK at hq
  split at hq
  ·rename_i hh
   obtain ⟨rfl, rfl⟩ := hh
   obtain ⟨y, h1, h2⟩ := Option.map_eq_some_iff.1 hq
   cases h2
   exact (iG hm h1 hc.2).cons (fun _ _ _ h => by cases h) (fun h => by cases h) (fun _ => hc.1)
  ·cases hq
 | .aq e :: ts, .al r [] e' :: xs, v :: vs, us, rs, hq, hc => by
  unfold aK at hq
  split at hq
  ·rename_i hh
   obtain ⟨rfl, rfl, aY⟩ := hh
   split at hq
   ·rename_i e2 ys hr
    obtain ⟨y, h1, h2⟩ := Option.map_eq_some_iff.1 hq
    cases h2
    refine (iG hm h1 hc.2).yc ⟨⟨e2, ys, hr⟩, aY⟩ ?_
    obtain ⟨e0, d, zs, h3, _, h4⟩ := hc.1
    obtain ⟨rfl, rfl, rfl⟩ : e2 = e0 ∧ true = d ∧ ys = zs := by rw [hr] at h3; cases h3; exact ⟨rfl, rfl, rfl⟩
    obtain ⟨h5, -, h6⟩ := h4.cC
    rw [h6, h5]
    exact hm.rt r _ hr
   ·cases hq
  ·cases hq
 | .int k :: ts, .int k' n :: xs, v :: vs, us, rs, hq, hc => by
  unfold aK at hq
  split at hq
  ·rename_i hk; subst hk
   obtain ⟨y, h1, h2⟩ := Option.map_eq_some_iff.1 hq
   cases h2
   obtain rfl : v = .int k n := hc.1
   exact (iG hm h1 hc.2).cons (fun _ _ _ h => by cases h) (fun _ => .int _ k n) (fun _ => .int k n)
  ·cases hq
 | .bool :: ts, .bool b :: xs, v :: vs, us, rs, hq, hc => by
  unfold aK at hq
  obtain ⟨y, h1, h2⟩ := Option.map_eq_some_iff.1 hq
  cases h2
  obtain rfl : v = .bool b := hc.1
  exact (iG hm h1 hc.2).cons (fun _ _ _ h => by cases h) (fun _ => .bool _ b) (fun _ => .bool b)
 | .str :: ts, .str b :: xs, v :: vs, us, rs, hq, hc => by
  unfold aK at hq
  obtain ⟨y, h1, h2⟩ := Option.map_eq_some_iff.1 hq
  cases h2
  obtain rfl : v = .string b := hc.1
  exact (iG hm h1 hc.2).cons (fun _ _ _ h => by cases h) (fun _ => .str _ b) (fun _ => .str b)
 | _, _ :: _, [], _, _, _, hc => hc.elim
 | [], [], _ :: _, _, _, _, hc => hc.elim
 | [], _ :: _, _ :: _, _, _, hq, _ => by simp [aK] at hq
 | _ :: _, [], _, _, _, hq, _ => by simp [aK] at hq
 | .aq e :: ts, .al r (x :: p) e' :: xs, v :: vs, us, rs, hq, hc => by simp [aK] at hq
 | .aq e :: ts, .int .. :: xs, v :: vs, us, rs, hq, hc => by simp [aK] at hq
 | .aq e :: ts, .bool .. :: xs, v :: vs, us, rs, hq, hc => by simp [aK] at hq
 | .aq e :: ts, .str .. :: xs, v :: vs, us, rs, hq, hc => by simp [aK] at hq
 | .aq e :: ts, .no :: xs, v :: vs, us, rs, hq, hc => by simp [aK] at hq
 | .int k :: ts, .bool .. :: xs, v :: vs, us, rs, hq, hc => by simp [aK] at hq
 | .int k :: ts, .str .. :: xs, v :: vs, us, rs, hq, hc => by simp [aK] at hq
 | .int k :: ts, .rd .. :: xs, v :: vs, us, rs, hq, hc => by simp [aK] at hq
 | .int k :: ts, .nil :: xs, v :: vs, us, rs, hq, hc => by simp [aK] at hq
 | .int k :: ts, .al .. :: xs, v :: vs, us, rs, hq, hc => by simp [aK] at hq
 | .int k :: ts, .no :: xs, v :: vs, us, rs, hq, hc => by simp [aK] at hq
 | .bool :: ts, .int .. :: xs, v :: vs, us, rs, hq, hc => by simp [aK] at hq
 | .bool :: ts, .str .. :: xs, v :: vs, us, rs, hq, hc => by simp [aK] at hq
 | .bool :: ts, .rd .. :: xs, v :: vs, us, rs, hq, hc => by simp [aK] at hq
 | .bool :: ts, .nil :: xs, v :: vs, us, rs, hq, hc => by simp [aK] at hq
 | .bool :: ts, .al .. :: xs, v :: vs, us, rs, hq, hc => by simp [aK] at hq
 | .bool :: ts, .no :: xs, v :: vs, us, rs, hq, hc => by simp [aK] at hq
 | .str :: ts, .int .. :: xs, v :: vs, us, rs, hq, hc => by simp [aK] at hq
 | .str :: ts, .bool .. :: xs, v :: vs, us, rs, hq, hc => by simp [aK] at hq
 | .str :: ts, .rd .. :: xs, v :: vs, us, rs, hq, hc => by simp [aK] at hq
 | .str :: ts, .nil :: xs, v :: vs, us, rs, hq, hc => by simp [aK] at hq
 | .str :: ts, .al .. :: xs, v :: vs, us, rs, hq, hc => by simp [aK] at hq
 | .str :: ts, .no :: xs, v :: vs, us, rs, hq, hc => by simp [aK] at hq
structure ny (X : Ctx) (st : St) (w : World) (g : Gh) (deep : Bool) (ai : List CT) (els : List (List Cl)) (vss : List (List Value)) (xs : List (List U)) (rs : List Nat) : Prop where
 len : xs.length = els.length
 el : ∀ (i : Nat) cls vs us, els[i]? = some cls → vss[i]? = some vs → xs[i]? = some us → ∃ fN, fm X st w g deep ai cls vs us fN
 sz : ∀ (i : Nat) us, xs[i]? = some us → us.length = ai.length
 mem : ∀ (i j : Nat) cls r p e, els[i]? = some cls → cls[j]? = some (.al r p e) → r ∈ rs
 row : ∀ r ∈ rs, (∃ e xs, st.rt[r]? = some (.row e true xs)) ∧ st.np ≤ r
 jY : rs.Nodup → ∀ (i i' j j' : Nat) cls gB r p e p' e', els[i]? = some cls → els[i']? = some gB → cls[j]? = some (.al r p e) → gB[j']? = some (.al r p' e') → i = i' ∧ j = j'
theorem qo (hm : Mem X st w g) {deep : Bool} {ai : List CT} : ∀ {els : List (List Cl)} {vss : List (List Value)} {xs : List (List U)} {rs : List Nat}, dz st.rt st.np deep ai els = some (xs, rs) → els.length = vss.length →
  (∀ (i : Nat) cls vs, els[i]? = some cls → vss[i]? = some vs → av X w st.rt g cls vs) → ny X st w g deep ai els vss xs rs
 | [], vss, xs, rs, hq, _, _ => by
  cases hq
  exact ⟨rfl, fun i cls vs us h => by simp at h, fun i us h => by simp at h, fun i j cls r p e h => by simp at h, fun r h => by simp at h, fun _ i i' j j' cls gB r p e p' e' h => by simp at h⟩
 | cls :: els, [], xs, rs, hq, hl, _ => by simp at hl
 | cls :: els, vs :: vss, xs, rs, hq, hl, hc => by
  unfold dz at hq
  split at hq
  ·rename_i y z hy hz
   obtain ⟨us, ra⟩ := y
   obtain ⟨bY, rb⟩ := z
   cases hq
   have h1 := iG hm hy (hc 0 cls vs rfl rfl)
   have h2 := qo hm (vss := vss) hz (by simpa using hl) fun i gB vs' hi hv => hc (i + 1) gB vs' (by simpa using hi) (by simpa using hv)
   refine ⟨by simp [h2.len], fun i gB vs' lz h3 h4 h5 => ?_, fun i lz h3 => ?_, fun i j gB r p e h3 h4 => ?_, fun r hr => ?_, fun hn i i' j j' c c' r p e p' e' h3 h4 h5 h6 => ?_⟩
   ·cases i with
    | zero => simp at h3 h4 h5; subst h3 h4 h5; exact ⟨ra, h1⟩
    | succ i => exact h2.el i gB vs' lz (by simpa using h3) (by simpa using h4) (by simpa using h5)
   ·cases i with
    | zero => simp at h3; subst h3; exact h1.l1
    | succ i => exact h2.sz i lz (by simpa using h3)
   ·cases i with
    | zero => simp at h3; subst h3; exact List.mem_append_left _ (h1.mem j r p e h4)
    | succ i => exact List.mem_append_right _ (h2.mem i j gB r p e (by simpa using h3) h4)
   ·rcases List.mem_append.1 hr with hr | hr
    ·exact h1.row r hr
    ·exact h2.row r hr
   ·obtain ⟨n1, n2, n3⟩ := List.nodup_append.1 hn
    cases i with
    | zero => cases i' with
     | zero => simp at h3 h4; subst h3 h4; exact ⟨rfl, h1.jY n1 j j' r p e p' e' h5 h6⟩
     | succ i' => simp at h3; subst h3; exact absurd rfl (n3 r (h1.mem j r p e h5) r (h2.mem i' j' c' r p' e' (by simpa using h4) h6))
    | succ i => cases i' with
     | zero => simp at h4; subst h4; exact absurd rfl (n3 r (h1.mem j' r p' e' h6) r (h2.mem i j c r p e (by simpa using h3) h5))
     | succ i' =>
      obtain ⟨e1, e2⟩ := h2.jY n2 i i' j j' c c' r p e p' e' (by simpa using h3) (by simpa using h4) h5 h6
      exact ⟨by rw [e1], e2⟩
  ·cases hq
end
end Go.Proofs.YtbanfmadialnkaaGreat.Eng
namespace Go.Proofs.YtbanfmadialnkaaGreat.Eng
open Go.RowKit
set_option linter.unusedVariables false
section
variable {P : Program} {X : Ctx} {own0 : Nat → Option Nat} {w0 : World} {st : St} {a : Act} {w w' : World} {g g' : Gh}
theorem Cl.gv {Q B : Nat → Prop} {rt0 : List aa} {x : Cl} (h : x.free Q) : x.aV Q B rt0 := by cases x <;> first | exact fun _ => .inl h | trivial
theorem SV.gv {Q B : Nat → Prop} {rt0 : List aa} {x : SV} (h : x.free Q) : x.aV Q B rt0 := by
 cases x with
 | c x => exact Cl.gv h
 | ag xs => exact fun y hy => Cl.gv (h y hy)
 | po => exact fun _ => .inl h
 | fn f ax =>
  intro y hy
  cases y with
  | c x => exact Cl.gv (h _ hy)
  | _ => trivial
 | bc vs => exact fun y hy z hz => Cl.gv (h y hy z hz)
 | _ => trivial
theorem aa.gv {Q B : Nat → Prop} {rt0 : List aa} {x : aa} (h : x.free Q) : x.aV Q B rt0 := by
 cases x with
 | box t cs => exact fun y hy => Cl.gv (h y hy)
 | _ => trivial
theorem Rel.xA (h : Rel X own0 w0 st a w g) {Q : Nat → Prop} (hf : st.free Q) (hq : ∀ s x, Q s → st.rt[s]? = some x → x = .gone) (x : aa)
  (hK : bJ X Q (fun _ => False) w g st.rt w' g' (st.add x).rt) (hx : cr X w' (st.add x).rt g' st.rt.length x) (lt : ∀ b, g'.own b ≠ none → b < w'.heap.size)
  (ob : ∀ b s, g'.own b = some s → s < st.rt.length + 1) (n0 : w.heap.size ≤ w'.heap.size) (pm : ∀ b s, g'.own b = some s → X.nw b ∨ (s < X.np ∧ X.po b = some s)) (pv : ∀ s, s < X.np → g'.v s = X.pv s) (fr : Fr own0 w0 w' g') : Rel X own0 w0 (st.add x) a w' g' := by
 have hl : (st.add x).rt.length = st.rt.length + 1 := by show (st.rt ++ [x]).length = _; simp
 refine ⟨⟨fun i y hy => ?_, lt, fun b s hb => by rw [hl]; exact ob b s hb, h.mem.mV n0, h.mem.np, by rw [hl]; exact Nat.le_succ_of_le h.mem.nl, pm, pv⟩, h.sz, fun i sv bI => az.keep h.mem hK (SV.gv (hf.1 sv (List.mem_of_getElem? bI))) (h.sl i sv bI), h.df, fr⟩
 by_cases hi : i < st.rt.length
 ·rw [jg st x i hi] at hy
  by_cases jB : Q i
  ·obtain rfl := hq i y jB hy; trivial
  ·exact cr.keep h.mem hK hy jB (aa.gv (hf.2 y (List.mem_of_getElem? hy)))
 ·have ay := aA hy
  rw [hl] at ay
  obtain rfl : i = st.rt.length := by omega
  have : (st.rt ++ [x])[st.rt.length]? = some x := by simp
  obtain rfl := Option.some.inj (this.symm.trans hy)
  exact hx
def Gh.oP (g : Gh) (b n : Nat) (rs : List Nat) (v : Value) : Gh :=
 ⟨fun x => if x = b then some n else match g.own x with | some r => if r ∈ rs then some n else some r | none => none, fun r => if r = n then v else g.v r, g.b⟩
theorem Gh.sm (g : Gh) (b n : Nat) (rs : List Nat) (v : Value) : (g.oP b n rs v).own b = some n := if_pos rfl
theorem Gh.mM (g : Gh) {b n : Nat} {rs : List Nat} {v : Value} {x : Nat} (hx : x ≠ b) (h : g.own x = none) : (g.oP b n rs v).own x = none := by
 show (if x = b then _ else _) = _
 rw [if_neg hx, h]
theorem Gh.oQ (g : Gh) {b n : Nat} {rs : List Nat} {v : Value} {x r : Nat} (hx : x ≠ b) (h : g.own x = some r) : (g.oP b n rs v).own x = if r ∈ rs then some n else some r := by
 show (if x = b then _ else _) = _
 rw [if_neg hx, h]
noncomputable def kM (g : Gh) (els : List (List Cl)) (b : Nat) : Option (Nat × Nat) :=
 open Classical in if h : ∃ ij : Nat × Nat, CF g (els.getD ij.1 []) ij.2 b then some (Classical.choose h) else none
theorem AB {deep : Bool} {ai : List CT} {els : List (List Cl)} {vss : List (List Value)} {xs : List (List U)} {rs : List Nat} (hs : ny X st w g deep ai els vss xs rs) (hn : rs.Nodup) {i j b : Nat} {cls : List Cl} (hi : els[i]? = some cls) (h : CF g cls j b) : kM g els b = some (i, j) := by
 have hex : ∃ ij : Nat × Nat, CF g (els.getD ij.1 []) ij.2 b := ⟨(i, j), by rw [da hi]; exact h⟩
 unfold kM
 rw [dif_pos hex]
 have h2 := Classical.choose_spec hex
 generalize Classical.choose hex = ij at h2
 obtain ⟨i', j'⟩ := ij
 obtain ⟨r, p, e, h3, h4⟩ := h
 obtain ⟨r', p', e', h5, h6⟩ := h2
 obtain rfl : r = r' := by rw [h4] at h6; exact Option.some.inj h6
 have db : i' < els.length := by
  refine Nat.lt_of_not_le fun qV => ?_
  simp only at h5
  rw [List.getD_eq_getElem?_getD, List.getElem?_eq_none qV] at h5
  simp at h5
 obtain ⟨e1, e2⟩ := hs.jY hn i i' j j' cls _ r p e p' e' hi (eG (d := []) db) h3 h5
 rw [e1, e2]
theorem AD {els : List (List Cl)} {b : Nat} (h : g.own b = none) : kM g els b = none := by
 unfold kM
 rw [dif_neg]
 rintro ⟨ij, r, p, e, h1, h2⟩
 rw [h] at h2; cases h2
theorem yi : ∀ (rs : List Nat) (st : St), (st.consume rs).np = st.np
 | [], st => rfl
 | r :: rs, st => yi rs _
theorem qz {rs : List Nat} {st : St} (h : st.free (fun s => s ∈ rs ∨ False)) : st.free (fun s => s ∈ rs) := by simpa using h
structure iv (e : Nat) (vss : List (List Value)) (cs : List Value) : Prop where
 cell : ∀ (i j : Nat) vs, vss[i]? = some vs → j < e → ∃ v, vs[j]? = some v ∧ cs[i * e + j]? = some v
theorem ao.elems (h : Rel X own0 w0 st a w g) {deep : Bool} {e : TypeId} {els : List (List Cl)} {vss : List (List Value)} {xs : List (List U)} {rs : List Nat} (hs : ny X st w g deep (X.T.ct e) els vss xs rs) (hn : rs.Nodup)
  (hl : els.length = vss.length) {cs : List Value} (bB : iv (X.T.size e) vss cs) {w' : World} (hw : ∀ b, b < w.heap.size → w'.heap[b]? = w.heap[b]?) {F : Nat → Prop} (hF : ∀ b r, g.own b = some r → r ∈ rs → F b)
  {ok : Nat → Prop} (hk : ∀ b, ak X w g b → ok b) :
  ∃ V : Nat → Nat → Value, (∀ (i j : Nat) (x : List U), xs[i]? = some x → j < x.length → cs[i * X.T.size e + j]? = some (V i j)) ∧
   (deep = true → ∀ (i j : Nat) (x : List U) (u : U) (ct : CT), xs[i]? = some x → x[j]? = some u → (X.T.ct e)[j]? = some ct → ao X.T.ct w' (fun b => F b ∧ kM g els b = some (i, j)) ct u (V i j)) ∧
   (deep = false → ∀ (i j : Nat) (x : List U) (u : U) (ct : CT), xs[i]? = some x → x[j]? = some u → (X.T.ct e)[j]? = some ct → aC X.T.ct w' ok ct u (V i j)) := by
 have key : ∀ (i j : Nat) (x : List U), xs[i]? = some x → j < x.length → ∃ cls vs v fN, els[i]? = some cls ∧ vss[i]? = some vs ∧ vs[j]? = some v ∧ cs[i * X.T.size e + j]? = some v ∧ fm X st w g deep (X.T.ct e) cls vs x fN := by
  intro i j x hx hj
  have h1 : i < els.length := by rw [← hs.len]; exact aA hx
  have h2 : i < vss.length := by rw [← hl]; exact h1
  have h3 := hs.sz i x hx
  obtain ⟨v, h4, h5⟩ := bB.cell i j _ (List.getElem?_eq_getElem h2) (by show j < (X.T.ct e).length; omega)
  obtain ⟨fN, h6⟩ := hs.el i _ _ _ (List.getElem?_eq_getElem h1) (List.getElem?_eq_getElem h2) hx
  exact ⟨_, _, v, fN, List.getElem?_eq_getElem h1, List.getElem?_eq_getElem h2, h4, h5, h6⟩
 refine ⟨fun i j => (cs[i * X.T.size e + j]?).getD undef, fun i j x hx hj => ?_, fun hd i j x u ct hx hu ah => ?_, fun hd i j x u ct hx hu ah => ?_⟩
 ·obtain ⟨cls, vs, v, fN, h1, h2, h3, h4, h5⟩ := key i j x hx hj
  dsimp only
  rw [h4]; rfl
 ·obtain ⟨cls, vs, v, fN, h1, h2, h3, h4, h5⟩ := key i j x hx (aA hu)
  dsimp only
  rw [h4]
  refine (h5.own hd j u ct v hu ah h3).imp fun b hb => ?_
  have au := hb
  obtain ⟨r, p, e', h6, h7⟩ := hb
  exact ⟨⟨hF b r h7 (hs.mem i j cls r p e' h1 h6), AB hs hn h1 au⟩, hw b (h.mem.lt b (by rw [h7]; simp))⟩
 ·obtain ⟨cls, vs, v, fN, h1, h2, h3, h4, h5⟩ := key i j x hx (aA hu)
  dsimp only
  rw [h4]
  exact (h5.rd hd j u ct v hu ah h3).imp fun b hb => ⟨hk b hb, hw b hb.2.1⟩
theorem Rel.newRow (h : Rel X own0 w0 st a w g) {deep : Bool} {e : TypeId} {els : List (List Cl)} {vss : List (List Value)} {xs : List (List U)} {rs : List Nat} (hs : ny X st w g deep (X.T.ct e) els vss xs rs) (hn : cD rs = true)
  (hl : els.length = vss.length) {cs : Array Value} {cap : Nat} (bB : iv (X.T.size e) vss (cs.toList.take (els.length * X.T.size e))) (aN : cs.size = cap * X.T.size e) (uQ : els.length ≤ cap) (iS : cap ≤ maxLen) :
  ∃ g', Rel X own0 w0 ((st.consume rs).add (.row e deep xs)) a (w.alloc (.cells cs e)) g' ∧
   az X (w.alloc (.cells cs e)) ((st.consume rs).add (.row e deep xs)).rt g' (.c (.al st.rt.length [] e)) (.slice (some ⟨w.heap.size, 0, none⟩) els.length cap) := by
 have aG : ∀ r ∈ rs, cZ st.rt r := fun r hr => by obtain ⟨⟨e', ys, h1⟩, _⟩ := hs.row r hr; exact ⟨e', true, ys, h1⟩
 have h1 := h.consume rs aG hn
 have hlen : (st.consume rs).rt.length = st.rt.length := jl rs st
 have zB : (st.consume rs).free (fun s => s ∈ rs) := qz (nP rs (St.eF st))
 have hold : ∀ b, b < w.heap.size → (w.alloc (.cells cs e)).heap[b]? = w.heap[b]? := fun b hb => heap_alloc_old w _ b hb
 have kB := heap_alloc_new w (.cells cs e)
 have aM : (w.alloc (.cells cs e)).heap.size = w.heap.size + 1 := by show (w.heap.push _).size = _; rw [Array.size_push]
 have ho := mY h (Nat.le_refl w.heap.size)
 let g' := g.oP w.heap.size st.rt.length rs (.slice (some ⟨w.heap.size, 0, none⟩) els.length cap)
 have ay : ∀ b r, g.own b = some r → b < w.heap.size := fun b r hb => h.mem.lt b (by rw [hb]; simp)
 have qF : ((st.consume rs).add (.row e deep xs)).rt[st.rt.length]? = some (.row e deep xs) := by
  show ((st.consume rs).rt ++ [_])[_]? = _
  rw [List.getElem?_append_right (by rw [hlen]; exact Nat.le_refl _), hlen]; simp
 have fa : ∀ b, ak X w g b → ak X (w.alloc (.cells cs e)) g' b := fun b hb => ⟨g.mM (by have := hb.2.1; omega) hb.1, by rw [aM]; have := hb.2.1; omega, hb.2.2⟩
 have hK : bJ X (fun s => s ∈ rs) (fun _ => False) w g (st.consume rs).rt (w.alloc (.cells cs e)) g' ((st.consume rs).add (.row e deep xs)).rt := by
  refine ⟨fun b hb => ⟨fa b hb, hold b hb.2.1⟩, fun b r hr hb => ?_, fun r hr _ => ?_, fun r e' d ys _ hr => ?_, fun r t cs' hr => ⟨rfl, cs', ?_⟩, fun _ hb => hb.elim⟩
  ·have := ay b r hb
   exact ⟨by rw [g.oQ (by omega) hb, if_neg hr], hold b this⟩
  ·show (if r = st.rt.length then _ else _) = _
   rw [if_neg (by rw [hlen] at hr; omega)]
  ·rw [jg _ _ _ (aA hr)]; exact hr
  ·rw [jg _ _ _ (aA hr)]; exact hr
 have hv : g'.v st.rt.length = .slice (some ⟨w.heap.size, 0, none⟩) els.length cap := if_pos rfl
 have hF : ∀ b r, g.own b = some r → r ∈ rs → g'.own b = some st.rt.length := fun b r hb hr => by
  have := ay b r hb
  rw [g.oQ (by omega) hb, if_pos hr]
 obtain ⟨V, hV, yT, kl⟩ := ao.elems h hs (kQ hn) hl bB hold hF fa
 have bE : (w.alloc (.cells cs e)).ownsRow 0 e (X.T.ct e).length (.slice (some ⟨w.heap.size, 0, none⟩) els.length cap) xs.length (cs.toList.take (els.length * X.T.size e)) := by
  rw [hs.len]
  have := Nat.mul_le_mul_right (X.T.size e) uQ
  have aL : cs.toList.length = cap * X.T.size e := by rw [Array.length_toList]; exact aN
  exact ⟨by rw [List.length_take, aL]; exact Nat.min_eq_left this, .inr ⟨w.heap.size, cap, cs, rfl, Nat.zero_le _, kB, uQ, iS, aN, rfl⟩⟩
 refine ⟨g', ?_, ?_⟩
 ·refine h1.xA zB (fun s x hq hx => ?_) _ hK ?_ (fun b hb => ?_) (fun b s hb => ?_) (by rw [aM]; omega) (fun b s hb => ?_) (fun s hp => ?_) (h.fr.new rfl rfl rfl (by rw [aM]; omega) hold fun b hb gQ => g.mM (by omega) gQ)
  ·have := lQ rs aG hn hq
   rw [this] at hx; exact (Option.some.inj hx).symm
  ·rw [hlen]
   cases deep with
   | true =>
    show ao _ _ _ _ _ (g'.v _)
    rw [hv]
    refine .row _ e xs _ _ V (kM g els) (.of bE) (fun b hb => ?_) hV (fun i x hx => hs.sz i x hx) (yT rfl)
    simp only [Value.ownBlock, Option.some.injEq] at hb
    subst hb
    exact ⟨g.sm _ _ _ _, AD ho⟩
   | false =>
    show ba _ _ _ _ _ _ (g'.v _)
    rw [hv]
    refine ⟨_, V, .of bE, fun b hb => ?_, hV, fun i x hx => hs.sz i x hx, kl rfl⟩
    simp only [Value.ownBlock, Option.some.injEq] at hb
    subst hb
    exact g.sm _ _ _ _
  ·rw [aM]
   by_cases hbe : b = w.heap.size
   ·omega
   ·cases hx : g.own b with
    | none => exact absurd (g.mM hbe hx) hb
    | some r => have := ay b r hx; omega
  ·rw [hlen]
   by_cases hbe : b = w.heap.size
   ·subst hbe
    rw [show g'.own w.heap.size = some st.rt.length from g.sm _ _ _ _] at hb; cases hb; omega
   ·cases hx : g.own b with
    | none => rw [show g'.own b = none from g.mM hbe hx] at hb; cases hb
    | some r =>
     rw [show g'.own b = _ from g.oQ hbe hx] at hb
     have := h.mem.ob b r hx
     split at hb <;> (cases hb; omega)
  ·by_cases hbe : b = w.heap.size
   ·exact .inl (h.mem.n0 _ (by omega))
   ·cases hx : g.own b with
    | none => rw [show g'.own b = none from g.mM hbe hx] at hb; cases hb
    | some r =>
     rw [show g'.own b = _ from g.oQ hbe hx] at hb
     have h5 := h.mem.pm b r hx
     split at hb
     ·rename_i hr
      have := (hs.row r hr).2
      rw [h.mem.np] at this
      exact .inl (h5.resolve_right fun hh => by omega)
     ·cases hb; exact h5
  ·show (if s = st.rt.length then _ else _) = _
   have := h.mem.nl
   rw [if_neg (by omega)]; exact h.mem.pv s hp
 ·refine az.cE ⟨e, deep, xs, qF, .inl rfl, ?_⟩
  rw [hv]; exact .nil _ _ _
end
end Go.Proofs.YtbanfmadialnkaaGreat.Eng
namespace Go.Proofs.YtbanfmadialnkaaGreat.Eng
open Go.RowKit
set_option linter.unusedVariables false
section
variable {P : Program} {X : Ctx} {own0 : Nat → Option Nat} {w0 : World} {st : St} {a : Act} {w w' : World} {g g' : Gh} {R : Type}
def bm (P : Program) (X : Ctx) (own0 : Nat → Option Nat) (w0 : World) (o : Oper) (a : Act) (w : World) (ab : St) : Prop :=
 ∀ (next : Act → World → Prop) (Q : Exit → Act → World → Prop), (∀ v w' g', Rel X own0 w0 ab (a.put o.dst v) w' g' → next (a.put o.dst v) w') → o.wp P a w next Q
theorem bm.value {o : Oper} {v : Value} {ab : St} (hr : (execOp a.eval o).run P w = .ok (.value v) w') (h : Rel X own0 w0 ab (a.put o.dst v) w' g') : bm P X own0 w0 o a w ab := by
 intro next Q hn
 unfold Oper.wp
 rw [hr]
 exact hn _ _ _ h
theorem bm.skip {o : Oper} {ab : St} (hr : (execOp a.eval o).run P w = .ok .skip w') (h : Rel X own0 w0 ab (a.put o.dst undef) w' g') : bm P X own0 w0 o a w ab := by
 intro next Q hn
 unfold Oper.wp
 rw [hr]
 exact hn _ _ _ h
theorem tw (hT : aU P X.T) (h : Rel X own0 w0 st a w g) {o : Oper} {t : TypeId} (ho : o.op = .alloc t) {K : St → Option R} {r : R} (hq : gu X.T st t o.dst K = some r) : ∃ ab, K ab = some r ∧ bm P X own0 w0 o a w ab := by
 unfold gu at hq
 split at hq
 ·rename_i ht
  refine ⟨_, hq, ?_⟩
  obtain ⟨g', h1, h2⟩ := h.vU t (cs := (X.T.ct t).map eE) (vs := (X.T.row t).zero.cells) (by rw [fu.nv hT]; exact pB X _)
  refine bm.value (v := .pointer (some ⟨w.heap.size, 0, none⟩)) (w' := w.alloc (.cells (X.T.row t).zero.cells t)) ?_ (h1.put o.dst h2)
  simp [execOp, ho, Instr.alloc, wU hT ht, newVar, newRow]
 ·cases hq
theorem xN (hT : aU P X.T) (h : Rel X own0 w0 st a w g) {o : Oper} {t : TypeId} {x : Operand} (ho : o.op = .box t x) {K : St → Option R} {r : R} (hq : iA X.T st t (ev st x) o.dst K = some r) : ∃ ab, K ab = some r ∧ bm P X own0 w0 o a w ab := by
 unfold iA at hq
 split at hq
 ·rename_i cs hc
  refine ⟨_, hq, ?_⟩
  obtain ⟨g', h1, h2⟩ := h.vU t (qc h (aX h x) hc)
  refine bm.value (v := .pointer (some ⟨w.heap.size, 0, none⟩)) (w' := w.alloc (.cells (a.eval x).cells t)) ?_ (h1.put o.dst h2)
  simp [execOp, ho, Instr.box, newVar, newRow]
 ·cases hq
theorem Ch (hT : aU P X.T) {e : TypeId} (hs : X.T.size e ≠ 0) (n : Nat) : av X w st.rt g (zeroCells (X.T.ct e) n) ((Array.range n).map ((X.T.row e).zero.cells[· % (X.T.row e).zero.cells.size]!)).toList := by
 refine av.mW (by simp [zeroCells]) fun i x v hx hv => ?_
 have hi : i < n := by
  have := aA hx
  simpa [zeroCells] using this
 have hz : (X.T.row e).zero.cells = ((X.T.ct e).map zeroV).toArray := fu.nv hT e
 have hm : i % (X.T.ct e).length < (X.T.ct e).length := Nat.mod_lt _ (Nat.pos_of_ne_zero hs)
 obtain rfl : x = eE ((X.T.ct e).getD (i % (X.T.ct e).length) .bool) := by
  simp only [zeroCells, List.getElem?_map, List.getElem?_range hi, Option.map_some, Option.some.injEq] at hx
  exact hx.symm
 have eA : v = zeroV ((X.T.ct e).getD (i % (X.T.ct e).length) .bool) := by
  rw [hz] at hv
  simp only [Array.toList_map, Array.toList_range, List.getElem?_map, List.getElem?_range hi, Option.map_some, Option.some.injEq] at hv
  rw [← hv]
  simp [hm]
 rw [eA]
 generalize (X.T.ct e).getD (i % (X.T.ct e).length) .bool = c
 cases c <;> rfl
theorem xX {size len : Nat} {cs : List Cl} {i : Nat} {x : List Cl} (h : (chunk size cs len)[i]? = some x) : i < len ∧ x = (cs.drop (i * size)).take size := by
 unfold chunk at h
 rw [List.getElem?_map] at h
 obtain ⟨y, hy, rfl⟩ := Option.map_eq_some_iff.1 h
 obtain ⟨h1, h2⟩ := List.getElem?_eq_some_iff.1 hy
 simp at h1 h2
 subst h2
 exact ⟨h1, rfl⟩
def kd (size : Nat) (cs : List Value) (len : Nat) : List (List Value) := (List.range len).map fun i => (cs.drop (i * size)).take size
theorem tY {size len : Nat} {cs : List Value} {i : Nat} {x : List Value} (h : (kd size cs len)[i]? = some x) : i < len ∧ x = (cs.drop (i * size)).take size := by
 unfold kd at h
 rw [List.getElem?_map] at h
 obtain ⟨y, hy, rfl⟩ := Option.map_eq_some_iff.1 h
 obtain ⟨h1, h2⟩ := List.getElem?_eq_some_iff.1 hy
 simp at h1 h2
 subst h2
 exact ⟨h1, rfl⟩
theorem hQ {i j size len : Nat} (hi : i < len) (hj : j < size) : i * size + j < len * size := by
 have := Nat.mul_le_mul_right size (Nat.succ_le_of_lt hi)
 rw [Nat.succ_mul] at this
 omega
theorem iv.chunk {size len : Nat} {cs : List Value} (hl : cs.length = len * size) : iv size (kd size cs len) cs := by
 refine ⟨fun i j vs hi hj => ?_⟩
 obtain ⟨h1, rfl⟩ := tY hi
 have h2 := hQ h1 hj
 have h3 : i * size + j < cs.length := by omega
 refine ⟨cs[i * size + j], ?_, List.getElem?_eq_getElem h3⟩
 rw [List.getElem?_take, if_pos hj, List.getElem?_drop, List.getElem?_eq_getElem h3]
theorem vX (h : Rel X own0 w0 st a w g) {e : TypeId} {len : Nat} {cls : List Cl} {cs : Array Value} (hc : av X w st.rt g cls cs.toList) (hl : cls.length = len * X.T.size e) (iS : len ≤ maxLen) {d : Option Tmp} {K : St → Option R} {r : R}
  {deep : Bool} (hq : fg X.T st e deep (chunk (X.T.size e) cls len) d K = some r) :
  ∃ ab g', K ab = some r ∧ Rel X own0 w0 ab (a.put d (.slice (some ⟨w.heap.size, 0, none⟩) len len)) (w.alloc (.cells cs e)) g' := by
 unfold fg at hq
 split at hq
 ·rename_i xs rs he
  split at hq
  ·rename_i hn
   have my : (chunk (X.T.size e) cls len).length = len := by simp [chunk]
   have aL : cs.toList.length = len * X.T.size e := by rw [← hc.length]; exact hl
   have hs := qo h.mem (vss := kd (X.T.size e) cs.toList len) he (by simp [chunk, kd]) fun i c v hi hv => by
    obtain ⟨_, rfl⟩ := xX hi
    obtain ⟨_, rfl⟩ := tY hv
    exact (hc.drop _).take _
   obtain ⟨g', h1, h2⟩ := h.newRow hs hn (by simp [chunk, kd]) (cs := cs) (cap := len) (by rw [my, List.take_of_length_le (by omega)]; exact iv.chunk aL) (by rw [← Array.length_toList]; exact aL) (by rw [my]; exact Nat.le_refl _) iS
   rw [my] at h2
   have hlen : (st.consume rs).rt.length = st.rt.length := jl rs st
   refine ⟨_, g', hq, ?_⟩
   exact h1.put d h2
  ·cases hq
 ·cases hq
def Gh.fQ (g : Gh) (qs : List Nat) : Gh := ⟨fun x => match g.own x with | some r => if r ∈ qs then none else some r | none => none, g.v, g.b⟩
theorem Gh.nr {qs : List Nat} {x : Nat} (h : g.own x = none) : (g.fQ qs).own x = none := by
 show (match g.own x with | some r => if r ∈ qs then none else some r | none => none) = _
 rw [h]
theorem Gh.xk {qs : List Nat} {x r : Nat} (h : g.own x = some r) (hr : r ∈ qs) : (g.fQ qs).own x = none := by
 show (match g.own x with | some r => if r ∈ qs then none else some r | none => none) = _
 rw [h]; simp [hr]
theorem Gh.xl {qs : List Nat} {x r : Nat} (h : g.own x = some r) (hr : r ∉ qs) : (g.fQ qs).own x = some r := by
 show (match g.own x with | some r => if r ∈ qs then none else some r | none => none) = _
 rw [h]; simp [hr]
theorem Gh.xm {qs : List Nat} {x r : Nat} (h : (g.fQ qs).own x = some r) : g.own x = some r := by
 cases hx : g.own x with
 | none => rw [Gh.nr hx] at h; cases h
 | some s =>
  by_cases hs : s ∈ qs
  ·rw [Gh.xk hx hs] at h; cases h
  ·rw [Gh.xl hx hs] at h; exact h
theorem Rel.fQ (h : Rel X own0 w0 st a w g) {qs : List Nat} (mu : ∀ r ∈ qs, st.rt[r]? = some .gone) : Rel X own0 w0 st a w (g.fQ qs) := by
 have hK : bJ X (fun s => s ∈ qs) (fun _ => False) w g st.rt w (g.fQ qs) st.rt :=
  ⟨fun b hb => ⟨⟨Gh.nr hb.1, hb.2⟩, rfl⟩, fun b r hr hb => ⟨Gh.xl hb hr, rfl⟩, fun _ _ _ => rfl, fun r e d xs _ hx => hx, fun r t cs hx => ⟨rfl, cs, hx⟩, fun _ hf => hf.elim⟩
 have aL : ∀ x : Cl, x.aV (fun s => s ∈ qs) (fun _ => False) st.rt := fun x => by
  cases x with
  | al r p e =>
   rintro ⟨e', d, xs, hr⟩
   exact .inl fun hq => by rw [mu r hq] at hr; cases hr
  | _ => trivial
 have bI : ∀ x : SV, x.aV (fun s => s ∈ qs) (fun _ => False) st.rt := fun x => by
  cases x with
  | c x => exact aL x
  | ag xs => exact fun x _ => aL x
  | po r p e i o =>
   rintro ⟨e', d, xs, hr⟩
   exact .inl fun hq => by rw [mu r hq] at hr; cases hr
  | fn f ax =>
   intro y _
   cases y with
   | c x => exact aL x
   | _ => trivial
  | bc vs => exact fun y _ z _ => aL z
  | _ => trivial
 refine ⟨⟨fun i y hy => ?_, fun b hb => h.mem.lt b fun hn => hb (Gh.nr hn), fun b s hb => h.mem.ob b s (Gh.xm hb), h.mem.n0, h.mem.np, h.mem.nl, fun b s hb => h.mem.pm b s (Gh.xm hb), h.mem.pv⟩, h.sz, fun i sv hi => az.keep h.mem hK (bI sv) (h.sl i sv hi), h.df, ⟨h.fr.os, h.fr.tape, h.fr.output, h.fr.size, fun b hb ho => ?_⟩⟩
 ·by_cases hq : i ∈ qs
  ·rw [mu i hq] at hy
   obtain rfl := Option.some.inj hy
   trivial
  ·refine cr.keep h.mem hK hy hq ?_
   cases y with
   | box t cs => exact fun x _ => aL x
   | _ => trivial
 ·obtain ⟨e1, e2⟩ := h.fr.block b hb ho
  exact ⟨Gh.nr e1, e2⟩
theorem aE.je (hm : Mem X st w g) {qs : List Nat} (aY : ∀ r ∈ qs, st.np ≤ r) {rt' : List aa} {x : Cl} {v : Value} (hr : ∀ r ∈ x.ae, r ∈ qs) (h : aE X w st.rt g x v) : aE X w rt' (g.fQ qs) (je st.rt x) v := by
 have eJ : ∀ b, ak X w g b → ak X w (g.fQ qs) b := fun b hb => ⟨Gh.nr hb.1, hb.2⟩
 cases x with
 | al r p e =>
  have hq := hr r (by simp [Cl.ae])
  obtain ⟨e0, d, xs, h1, h2⟩ := aE.fT hm h
  simp only [Eng.je, h1]
  refine h2 _ (fun b hb => ⟨Gh.xk hb hq, hm.lt b (by rw [hb]; simp), ?_⟩) eJ
  rcases hm.pm b r hb with hh | ⟨hh, _⟩
  ·exact .inr hh
  ·have := aY r hq; rw [hm.np] at this; omega
 | rd e xs => exact aC.imp h fun b hb => ⟨eJ b hb, rfl⟩
 | _ => exact h
theorem qj : ∀ (xs acc : List Nat) (r : Nat), r ∈ acc ∨ r ∈ xs → r ∈ dedup acc xs
 | [], acc, r, h => by unfold dedup; simpa using h
 | x :: xs, acc, r, h => by
  unfold dedup
  split
  ·rename_i hx
   have hx : x ∈ acc := by simpa using hx
   refine qj xs acc r ?_
   rcases h with h | h
   ·exact .inl h
   ·rcases List.mem_cons.1 h with rfl | h
    ·exact .inl hx
    ·exact .inr h
  ·refine qj xs _ r ?_
   rcases h with h | h
   ·exact .inl (by simp [h])
   ·rcases List.mem_cons.1 h with rfl | h
    ·exact .inl (by simp)
    ·exact .inr h
theorem xY {size len : Nat} {cls : List Cl} (f : Cl → Cl) : (chunk size cls len).map (fun x => x.map f) = chunk size (cls.map f) len := by
 simp [chunk, List.map_drop, List.map_take]
theorem xZ {size len : Nat} {cls : List Cl} (hl : cls.length = len * size) {c : Cl} (hc : c ∈ cls) : ∃ x ∈ chunk size cls len, c ∈ x := by
 obtain ⟨i, hi⟩ := List.mem_iff_getElem?.1 hc
 have ay := aA hi
 have hs : 0 < size := by
  cases size with
  | zero => rw [hl] at ay; simp at ay
  | succ n => omega
 have h1 : i / size < len := by
  rw [Nat.div_lt_iff_lt_mul hs]; omega
 refine ⟨(cls.drop (i / size * size)).take size, List.mem_map.2 ⟨i / size, List.mem_range.2 h1, rfl⟩, List.mem_iff_getElem?.2 ⟨i % size, ?_⟩⟩
 rw [List.getElem?_take, if_pos (Nat.mod_lt _ hs), List.getElem?_drop, Nat.mul_comm, Nat.div_add_mod]
 exact hi
theorem AR (h : Rel X own0 w0 st a w g) {e : TypeId} {len : Nat} {cls : List Cl} {cs : Array Value} (hc : av X w st.rt g cls cs.toList) (hl : cls.length = len * X.T.size e) (iS : len ≤ maxLen) {d : Option Tmp} {K : St → Option R} {r : R}
  (hq : fh X.T st e (chunk (X.T.size e) cls len) d K = some r) :
  ∃ ab g', K ab = some r ∧ Rel X own0 w0 ab (a.put d (.slice (some ⟨w.heap.size, 0, none⟩) len len)) (w.alloc (.cells cs e)) g' := by
 unfold fh at hq
 dsimp only at hq
 split at hq
 ·exact vX h hc hl iS hq
 ·split at hq
  ·rename_i hh
   rw [Bool.and_eq_true] at hh
   obtain ⟨hn, bH⟩ := hh
   have bH : ∀ r ∈ dedup [] ((chunk (X.T.size e) cls len).flatMap fun x => x.flatMap Cl.ae), st.np ≤ r ∧ cZ st.rt r := fun r hr => by
    have := List.all_eq_true.1 bH r hr
    simp only [Bool.and_eq_true, decide_eq_true_eq] at this
    refine ⟨this.1, ?_⟩
    have h2 := this.2
    unfold vK at h2
    split at h2
    ·rename_i e' d' bY hx; exact ⟨e', d', bY, hx⟩
    ·cases h2
   have bC : ∀ c ∈ cls, ∀ r ∈ c.ae, r ∈ dedup [] ((chunk (X.T.size e) cls len).flatMap fun x => x.flatMap Cl.ae) := fun c mb r hr => by
    obtain ⟨x, h1, h2⟩ := xZ hl mb
    exact qj _ _ _ (.inr (List.mem_flatMap.2 ⟨x, h1, List.mem_flatMap.2 ⟨c, h2, hr⟩⟩))
   generalize dedup [] ((chunk (X.T.size e) cls len).flatMap fun x => x.flatMap Cl.ae) = qs at *
   have iU : ∀ r ∈ qs, cZ st.rt r := fun r hr => (bH r hr).2
   have h1 := (h.consume qs iU hn).fQ (qs := qs) fun r hr => lQ qs iU hn hr
   rw [xY] at hq
   refine vX h1 (cls := cls.map (je st.rt)) ?_ (by rw [List.length_map]; exact hl) iS hq
   have fF := h.mem
   have key : ∀ {cls : List Cl} {vs : List Value}, av X w st.rt g cls vs → (∀ c ∈ cls, ∀ r ∈ c.ae, r ∈ qs) → av X w (st.consume qs).rt (g.fQ qs) (cls.map (je st.rt)) vs := by
    intro cls
    induction cls with
    | nil => intro vs h _; cases vs with | nil => trivial | cons => exact h.elim
    | cons c cls ih =>
     intro vs h hr
     cases vs with
     | nil => exact h.elim
     | cons v vs => exact ⟨aE.je fF (fun r hr => (bH r hr).1) (hr c (by simp)) h.1, ih h.2 fun c hc => hr c (by simp [hc])⟩
   exact key hc bC
  ·cases hq
theorem pX (hT : aU P X.T) (h : Rel X own0 w0 st a w g) {o : Oper} {t : TypeId} {len : Nat} {parts : Array (Nat × Operand)} (ho : o.op = .buildSlice t len parts) {K : St → Option R} {r : R} (hq : dR X.T st t len parts.toList o.dst K = some r) :
  ∃ ab, K ab = some r ∧ bm P X own0 w0 o a w ab := by
 unfold dR at hq
 split at hq
 ·rename_i e hd
  have ep : (X.T.row t).d = .one (.aq e) := by
   unfold aw.elem TD.elem at hd
   split at hd
   ·rename_i e' he; rw [he]; cases hd; rfl
   ·cases hd
  split at hq
  ·rename_i hh
   obtain ⟨hk, aN, cj⟩ := hh
   split at hq
   ·rename_i cs hb
    obtain ⟨vs', h1, h2, h3⟩ := nZ h _ _ (Ch (P := P) (st := st) (w := w) (g := g) hT cj (len * X.T.size e)) hb
    have hl : cs.length = len * X.T.size e := by rw [h3]; simp [zeroCells]
    have iS : len ≤ maxLen := by
     have : len ≤ len * X.T.size e := Nat.le_mul_of_pos_right _ (Nat.pos_of_ne_zero cj)
     simp only [maxLen]; omega
    obtain ⟨ab, g', h4, h5⟩ := AR h h2 hl iS hq
    refine ⟨ab, h4, bm.value (w' := w.alloc (.cells vs' e)) (v := .slice (some ⟨w.heap.size, 0, none⟩) len len) ?_ h5⟩
    have hn : ¬ (len * X.T.size e > 2 ^ 24) := by omega
    by_cases hl0 : len * X.T.size e = 0
    ·have e0 : (Array.range (len * X.T.size e)).map ((X.T.row e).zero.cells[· % (X.T.row e).zero.cells.size]!) = #[] := by rw [hl0]; simp
     rw [e0] at h1
     have qC : Instr.fill (fun i => some (i * X.T.size e, X.T.size e)) #[] (parts.map fun (x : Nat × Operand) => (x.1, a.eval x.2)).toList = some vs' := by rw [Array.toList_map]; exact h1
     simp [execOp, ho, Instr.buildSlice, run_underlying (eD hT ep), run_sizeOf hT hk, hl0, newRow, -Array.toList_map]
     rw [show (Array.map (fun x => (default : Value)) (Array.range 0)) = #[] from by simp, qC]
     simp
    ·have qC : Instr.fill (fun i => some (i * X.T.size e, X.T.size e)) ((Array.range (len * X.T.size e)).map ((X.T.row e).zero.cells[· % (X.T.row e).zero.cells.size]!)) (parts.map fun (x : Nat × Operand) => (x.1, a.eval x.2)).toList = some vs' := by rw [Array.toList_map]; exact h1
     have bT : ¬ 16777216 < len * X.T.size e := by omega
     simp only [execOp, ho, Instr.buildSlice, Sem.run_bind, run_underlying (eD hT ep), run_sizeOf hT hk, Result.andThen_ok, hl0, if_false, hn, wU hT hk, Sem.run_pure, qC, newRow]
     simp
   ·cases hq
  ·cases hq
 ·cases hq
theorem uu {rt : List aa} {np : Nat} (ai : List CT) : ∀ n, dz rt np true ai (List.replicate n (ai.map eE)) = some (List.replicate n (ai.map lB), [])
 | 0 => rfl
 | n + 1 => by
  have h1 : ∀ ai : List CT, aK rt np true ai (ai.map eE) = some (ai.map lB, []) := by
   intro ai
   induction ai with
   | nil => rfl
   | cons c ai ih => cases c <;> simp [aK, eE, lB, ih]
  rw [List.replicate_succ]
  unfold dz
  rw [h1, uu ai n]
  rfl
theorem BN (hT : aU P X.T) {t e : TypeId} (hd : (X.T.row t).d = .one (.aq e)) (hk : (X.T.row e).d.known = true) {n m : Int} (h0 : 0 ≤ n) (mD : n ≤ m) (hr : room m.toNat (X.T.row e).bytes = true) :
  (Instr.makeSlice t (.int .i64 n) (.int .i64 m)).run P w = .ok (.slice (some ⟨w.heap.size, 0, none⟩) n.toNat m.toNat) (w.alloc (.cells (madeCells (X.T.row e).zero.cells (m.toNat * X.T.size e)) e)) := by
 obtain ⟨i, desc, h1, h2, h3, h4, h5, h6⟩ := hT.ok e hk
 have hr := of_decide_eq_true hr
 have := run_make (P := P) w t e i (X.T.row e).zero (eD hT hd) h1 h5 .i64 .i64 n m h0 mD (by
  rw [h4]
  have h7 : m.toNat * (X.T.row e).bytes ≤ 140737488355328 := hr.1
  have h8 : (((X.T.row e).bytes * m.toNat : Nat) : Int) ≤ 281474976710656 := by rw [Nat.mul_comm]; omega
  rw [Int.natCast_mul, Int.toNat_of_nonneg (by omega)] at h8
  exact h8) (by omega)
 rw [this, h3]
theorem iv.made {e : TypeId} (hT : aU P X.T) (cj : X.T.size e ≠ 0) {n : Nat} {cs : List Value} (bB : cs = (madeCells (X.T.row e).zero.cells (n * X.T.size e)).toList) : iv (X.T.size e) (List.replicate n ((X.T.ct e).map zeroV)) cs := by
 refine ⟨fun i j vs hi hj => ?_⟩
 obtain ⟨h1, h2⟩ := List.getElem?_eq_some_iff.1 hi
 simp only [List.length_replicate] at h1
 simp only [List.getElem_replicate] at h2
 subst h2
 have h3 := hQ h1 hj
 have gO : j < (X.T.ct e).length := hj
 refine ⟨zeroV (X.T.ct e)[j], by rw [List.getElem?_map, List.getElem?_eq_getElem gO]; rfl, ?_⟩
 rw [bB]
 simp only [madeCells, Array.toList_map, Array.toList_range, List.getElem?_map, List.getElem?_range h3, Option.map_some, fu.nv hT, Option.some.injEq]
 have h4 : (i * X.T.size e + j) % (X.T.ct e).length = j := by
  rw [show X.T.size e = (X.T.ct e).length from rfl, Nat.mul_comm, Nat.mul_add_mod, Nat.mod_eq_of_lt gO]
 simp [h4, gO]
theorem AK (hT : aU P X.T) (h : Rel X own0 w0 st a w g) {o : Oper} {t : TypeId} {l c : Operand} (ho : o.op = .makeSlice t l c) {K : St → Option R} {r : R} (hq : iZ X.T st t l c o.dst K = some r) :
  ∃ ab, K ab = some r ∧ bm P X own0 w0 o a w ab := by
 unfold iZ at hq
 split at hq
 ·rename_i e n m hd hl hc
  have ep : (X.T.row t).d = .one (.aq e) := by
   unfold aw.elem TD.elem at hd
   split at hd
   ·rename_i e' he; rw [he]; cases hd; rfl
   ·cases hd
  have fe := aX h l
  have kK := aX h c
  rw [hl] at fe
  rw [hc] at kK
  have fe : a.eval l = .int .i64 n := fe
  have kK : a.eval c = .int .i64 m := kK
  split at hq
  ·rename_i hh
   obtain ⟨hk, cj⟩ := hh
   have fin : ∀ {n : Int} {els : List (List Cl)} {xs : List (List U)}, 0 ≤ n → n ≤ m → a.eval l = .int .i64 n → room m.toNat (X.T.row e).bytes = true → els.length = n.toNat → els = List.replicate n.toNat ((X.T.ct e).map eE) → xs = List.replicate n.toNat ((X.T.ct e).map lB) →
     K ((st.add (.row e true xs)).put o.dst (.c (.al st.rt.length [] e))) = some r → ∃ ab, K ab = some r ∧ bm P X own0 w0 o a w ab := by
    intro n els xs h0 mD fe hr di he hx hq
    subst he hx
    have hs := qo h.mem (vss := List.replicate n.toNat ((X.T.ct e).map zeroV)) (uu (rt := st.rt) (np := st.np) (X.T.ct e) n.toNat) (by simp) fun i c v hi hv => by
     obtain ⟨h1, h2⟩ := List.getElem?_eq_some_iff.1 hi
     obtain ⟨h3, h4⟩ := List.getElem?_eq_some_iff.1 hv
     simp only [List.getElem_replicate] at h2 h4
     subst h2 h4
     exact pB X _
    have aN : (madeCells (X.T.row e).zero.cells (m.toNat * X.T.size e)).size = m.toNat * X.T.size e := size_madeCells _ _
    have vf : n.toNat ≤ m.toNat := by omega
    have iV : (madeCells (X.T.row e).zero.cells (m.toNat * X.T.size e)).toList.take (n.toNat * X.T.size e) = (madeCells (X.T.row e).zero.cells (n.toNat * X.T.size e)).toList := by
     have h9 := Nat.mul_le_mul_right (X.T.size e) vf
     simp only [madeCells, Array.toList_map, Array.toList_range, ← List.map_take, List.take_range]
     rw [Nat.min_eq_left h9]
    obtain ⟨g', h1, h2⟩ := h.newRow hs rfl (by simp) (cs := madeCells (X.T.row e).zero.cells (m.toNat * X.T.size e)) (cap := m.toNat) (by rw [List.length_replicate, iV]; exact iv.made hT cj rfl) aN (by rw [List.length_replicate]; exact vf) (of_decide_eq_true hr).2
    rw [List.length_replicate] at h2
    refine ⟨_, hq, bm.value (w' := w.alloc (.cells (madeCells (X.T.row e).zero.cells (m.toNat * X.T.size e)) e)) (v := .slice (some ⟨w.heap.size, 0, none⟩) n.toNat m.toNat) ?_ (h1.put o.dst h2)⟩
    simp [execOp, ho, fe, kK, BN hT ep hk h0 mD hr]
   split at hq
   ·split at hq
    ·rename_i t1 t2 yW
     subst yW
     cases hz : (decide (0 ≤ m) && room m.toNat (X.T.row e).bytes) with
     | false => rw [hz] at hq; cases hq
     | true =>
      rw [hz] at hq
      simp only [Bool.and_eq_true, decide_eq_true_eq] at hz
      obtain rfl : n = m := by rw [fe] at kK; injection kK
      exact fin hz.1 (Int.le_refl _) fe hz.2 (by simp) rfl rfl hq
    ·cases hq
   ·split at hq
    ·rename_i zO
     subst zO
     cases hz : (decide (0 ≤ m) && room m.toNat (X.T.row e).bytes) with
     | false => rw [hz] at hq; cases hq
     | true =>
      rw [hz] at hq
      simp only [Bool.and_eq_true, decide_eq_true_eq] at hz
      exact fin (Int.le_refl _) hz.1 fe hz.2 (els := []) (xs := []) rfl rfl rfl hq
    ·cases hq
   ·split at hq
    ·rename_i mD
     subst mD
     cases hz : (decide (0 ≤ n) && room n.toNat (X.T.row e).bytes) with
     | false => rw [hz] at hq; cases hq
     | true =>
      rw [hz] at hq
      simp only [Bool.and_eq_true, decide_eq_true_eq] at hz
      exact fin hz.1 (Int.le_refl _) fe hz.2 (by simp) rfl rfl hq
    ·cases hq
   ·cases hq
  ·cases hq
 ·cases hq
end
end Go.Proofs.YtbanfmadialnkaaGreat.Eng
namespace Go.Proofs.YtbanfmadialnkaaGreat.Eng
open Go.RowKit
set_option linter.unusedVariables false
theorem sY (xs : List (List U)) (i o : Nat) (p : Path) (ys : List (List U)) : cq xs ((i, o) :: p) ys = xs.set i ((xs.getD i []).set o (.lst (cq (((xs.getD i []).getD o U0).bX) p ys))) := rfl
theorem CM {α : Type} {l : List α} {i : Nat} {x y : α} (h : (l.set i x)[i]? = some y) : y = x := by
 rw [List.getElem?_set] at h
 simp only [if_true] at h
 split at h
 ·exact (Option.some.inj h).symm
 ·cases h
theorem ao.uB {T : bg} {w : World} {ct bn : CT} {u u' : U} {v v' : Value} {p : Path} (h : At T w ct u v p bn u' v') : ∀ {F : Nat → Prop}, ao T w F ct u v → ∃ Fp : Nat → Prop, (∀ b, Fp b → F b) ∧ ao T w Fp bn u' v' ∧
  ∀ (w' : World) (N : Nat → Prop) (ys : List (List U)), (∀ e, bn = .aq e → ao T w' N bn (.lst ys) v') → (∃ e, bn = .aq e) → (∀ b, F b → ¬ Fp b → w'.heap[b]? = w.heap[b]?) → (∀ b, N b → Fp b ∨ ¬ F b) →
   ao T w' (fun b => (F b ∧ ¬ Fp b) ∨ N b) ct (if p = [] then .lst ys else .lst (cq u.bX p ys)) v := by
 induction h with
 | nil ct u v =>
  intro F hF
  refine ⟨F, fun _ h => h, hF, fun w' N ys hr he _ _ => ?_⟩
  obtain ⟨e, rfl⟩ := he
  rw [if_pos rfl]
  exact (hr e rfl).mono fun b hb => .inr hb
 | cons e xs g q n c i o x u1 cu v1 p bn u' v' hx hu ah hc h ih =>
  intro F hF
  cases hF with
  | row F e xs v cs V bq ho hg hV hs hh =>
   have ay : o < x.length := aA hu
   have dh := hX ho (hV i o x hx ay)
   obtain rfl := Option.some.inj (dh.symm.trans hc)
   obtain ⟨Fp, h1, h2, h3⟩ := ih (hh i o x u1 cu hx hu ah)
   refine ⟨Fp, fun b hb => (h1 b hb).1, h2, fun w' N ys hr he hw hN => ?_⟩
   obtain ⟨g1, g2⟩ := hg g rfl
   have qW : ¬ Fp g := fun hb => by have := (h1 g hb).2; rw [g2] at this; cases this
   have yQ : ∀ b, N b → Fp b ∨ ¬ (F b ∧ bq b = some (i, o)) := fun b hb => (hN b hb).imp id fun gP hf => gP hf.1
   have h4 := h3 w' N ys hr he (fun b hb hp => hw b hb.1 hp) yQ
   rw [if_neg (by simp)]
   have zE : xs.getD i [] = x := da hx
   have zD : x.getD o U0 = u1 := da hu
   have e1 : (.lst (cq (U.lst xs).bX ((i, o) :: p) ys) : U) = .lst (xs.set i (x.set o (if p = [] then .lst ys else .lst (cq u1.bX p ys)))) := by
    rw [U.nn, sY, zE, zD]
    split
    ·rename_i hp; subst hp; rfl
    ·rfl
   rw [e1]
   generalize (if p = [] then (.lst ys : U) else .lst (cq u1.bX p ys)) = z at h4
   classical
   have bk : bW w' e (T e).length (Value.slice (some { block := g, off := q }) n c) xs.length cs := by
    refine kV ho fun g' cK => ?_
    simp only [Value.ownBlock, Option.some.injEq] at cK
    subst cK
    exact hw g g1 qW
   refine .row _ e _ _ cs V (fun b => if N b then some (i, o) else bq b) (by rw [List.length_set]; exact bk) (fun g' cK => ?_) (fun i' j' y hy hj => ?_) (fun i' y hy => ?_) (fun i' j' y u2 iE hy dA mh => ?_)
   ·simp only [Value.ownBlock, Option.some.injEq] at cK
    subst cK
    refine ⟨.inl ⟨g1, qW⟩, ?_⟩
    rw [if_neg]
    ·exact g2
    ·intro hn
     exact (hN g hn).elim qW fun gP => gP g1
   ·rw [List.getElem?_set] at hy
    split at hy
    ·rename_i gN; subst gN
     split at hy
     ·obtain rfl := Option.some.inj hy
      rw [List.length_set] at hj
      exact hV i j' x hx hj
     ·cases hy
    ·exact hV i' j' y hy hj
   ·rw [List.getElem?_set] at hy
    split at hy
    ·rename_i gN; subst gN
     split at hy
     ·obtain rfl := Option.some.inj hy
      rw [List.length_set]; exact hs i x hx
     ·cases hy
    ·exact hs i' y hy
   ·
    have other : ∀ (y : List U) (u2 : U), xs[i']? = some y → y[j']? = some u2 → (i', j') ≠ (i, o) → ao T w' (fun b => ((F b ∧ ¬ Fp b) ∨ N b) ∧ (if N b then some (i, o) else bq b) = some (i', j')) iE u2 (V i' j') := by
     intro y u2 hy dA aS
     refine (hh i' j' y u2 iE hy dA mh).imp fun b hb => ?_
     have aY : ¬ Fp b := fun hp => by have := (h1 b hp).2; rw [hb.2] at this; exact aS (Option.some.inj this)
     have rn : ¬ N b := fun hn => (hN b hn).elim aY fun gP => gP hb.1
     exact ⟨⟨.inl ⟨hb.1, aY⟩, by rw [if_neg rn]; exact hb.2⟩, hw b hb.1 aY⟩
    rw [List.getElem?_set] at hy
    split at hy
    ·rename_i gN; subst gN
     split at hy
     ·obtain rfl := Option.some.inj hy
      rw [List.getElem?_set] at dA
      split at dA
      ·rename_i ju; subst ju
       obtain rfl := Option.some.inj dA
       obtain rfl := Option.some.inj (ah.symm.trans mh)
       refine h4.mono fun b hb => ?_
       by_cases hn : N b
       ·exact ⟨.inr hn, by rw [if_pos hn]⟩
       ·rcases hb with hb | hb
        ·exact ⟨.inl ⟨hb.1.1, hb.2⟩, by rw [if_neg hn]; exact hb.1.2⟩
        ·exact absurd hb hn
      ·rename_i ju
       exact other x u2 hx dA fun et => ju (Prod.mk.inj et).2.symm
     ·cases hy
    ·rename_i gN
     exact other y u2 hy dA fun et => gN (Prod.mk.inj et).1.symm
theorem ao.focus {T : bg} {w : World} {ct bn : CT} {u u' : U} {v v' : Value} {p : Path} (h : At T w ct u v p bn u' v') {F : Nat → Prop} (hF : ao T w F ct u v) : ∃ Fp : Nat → Prop, (∀ b, Fp b → F b) ∧ ao T w Fp bn u' v' ∧
  ∀ (w' : World) (N : Nat → Prop) (ys : List (List U)), (∀ e, bn = .aq e → ao T w' N bn (.lst ys) v') → (∃ e, bn = .aq e) → (∀ b, F b → ¬ Fp b → w'.heap[b]? = w.heap[b]?) → (∀ b, N b → Fp b ∨ ¬ F b) →
   ao T w' (fun b => F b ∨ N b) ct (if p = [] then .lst ys else .lst (cq u.bX p ys)) v := by
 obtain ⟨Fp, h1, h2, h3⟩ := ao.uB h hF
 exact ⟨Fp, h1, h2, fun w' N ys a b c d => (h3 w' N ys a b c d).mono fun b hb => hb.imp And.left id⟩
theorem ni : ∀ (us row : List U) (o : Nat), (fj row o us).length = row.length
 | [], row, o => rfl
 | u :: us, row, o => by unfold fj; rw [ni us]; exact List.length_set
theorem td : ∀ (us row : List U) (o i : Nat), o + us.length ≤ row.length → (fj row o us)[i]? = if o ≤ i ∧ i < o + us.length then us[i - o]? else row[i]?
 | [], row, o, i, h => by unfold fj; rw [if_neg (by simp only [List.length_nil]; omega)]
 | u :: us, row, o, i, h => by
  unfold fj
  rw [td us (row.set o u) (o + 1) i (by simp at h ⊢; omega)]
  simp only [List.length_cons] at h ⊢
  by_cases h1 : i = o
  ·subst h1
   rw [if_neg (by omega), if_pos (by omega), List.getElem?_set_self (by omega), Nat.sub_self]
   rfl
  ·by_cases h2 : o + 1 ≤ i ∧ i < o + 1 + us.length
   ·rw [if_pos h2, if_pos (by omega)]
    obtain ⟨k, rfl⟩ : ∃ k, i = o + 1 + k := ⟨i - (o + 1), by omega⟩
    rw [show o + 1 + k - (o + 1) = k from by omega, show o + 1 + k - o = k + 1 from by omega]; rfl
   ·rw [if_neg h2, if_neg (by omega), List.getElem?_set_ne (by omega)]
def stored (cur : Array Value) (o : Nat) (vs : List Value) : Array Value := (cur.toList.take o ++ vs ++ cur.toList.drop (o + vs.length)).toArray
theorem te {cur : Array Value} {o : Nat} {vs : List Value} (h : o + vs.length ≤ cur.size) (i : Nat) : (stored cur o vs).toList[i]? = if o ≤ i ∧ i < o + vs.length then vs[i - o]? else cur.toList[i]? := by
 have hl : (cur.toList.take o).length = o := by rw [List.length_take, Array.length_toList]; omega
 show (cur.toList.take o ++ vs ++ cur.toList.drop (o + vs.length))[i]? = _
 by_cases h1 : i < o
 ·rw [if_neg (by omega), List.append_assoc, List.getElem?_append_left (by omega), List.getElem?_take, if_pos h1]
 ·by_cases h2 : i < o + vs.length
  ·rw [if_pos ⟨by omega, h2⟩, List.append_assoc, List.getElem?_append_right (by omega), List.getElem?_append_left (by omega), hl]
  ·rw [if_neg (by omega), List.getElem?_append_right (by rw [List.length_append]; omega), List.length_append, hl, List.getElem?_drop]
   congr 1; omega
theorem xf {cur : Array Value} {o : Nat} {vs : List Value} (h : o + vs.length ≤ cur.size) : (stored cur o vs).size = cur.size := by
 show (cur.toList.take o ++ vs ++ cur.toList.drop (o + vs.length)).length = _
 rw [List.length_append, List.length_append, List.length_take, List.length_drop, Array.length_toList]; omega
theorem BY {cur : Array Value} {o : Nat} {vs : List Value} (h : o + vs.length ≤ cur.size) : (stored cur o vs).toList = gp cur.toList o vs := by
 apply List.ext_getElem?
 intro i
 rw [te h, xd _ _ _ _ (by rw [Array.length_toList]; exact h)]
section
variable {P : Program} {X : Ctx} {own0 : Nat → Option Nat} {w0 : World} {st : St} {a : Act} {w w' : World} {g g' : Gh} {R : Type}
theorem sX (hT : aU P X.T) {t : TypeId} (ht : (X.T.row t).d.known = true) {b o : Nat} {v : Value} {cur : Array Value} {e : TypeId} (hs : v.cells.size = X.T.size t) (hg : w.heap[b]? = some (.cells cur e (0, 0))) (hl : o + v.cells.toList.length ≤ cur.size) (h1 : ∀ u ∈ v.cells.toList, u.oneCell' = true) :
  (Instr.storeAt t (.pointer (some ⟨b, o, none⟩)) v).run P w = .ok () (w.setRow b (stored cur o v.cells.toList)) := by
 have := run_storeCells_at P b o e v.cells.toList 0 cur w hg (by omega) h1
 simp only [Nat.add_zero] at this
 simp [Instr.storeAt, Instr.sureAddr, storeVar, run_sizeOf hT ht, hs, this, stored]
theorem av.wj (hm : Mem X st w g) : ∀ {xs : List Cl} {vs : List Value}, av X w st.rt g xs vs → ∀ u ∈ vs, u.oneCell' = true
 | [], [], _, u, hu => by simp at hu
 | x :: xs, v :: vs, h, u, hu => by
  rcases List.mem_cons.1 hu with rfl | hu
  ·exact h.1.one hm
  ·exact av.wj hm h.2 u hu
 | [], _ :: _, h, _, _ => h.elim
 | _ :: _, [], h, _, _ => h.elim
theorem Rel.wY (h : Rel X own0 w0 st a w g) {r : Nat} {t : TypeId} {cs cs' : List Cl} (hr : st.rt[r]? = some (.box t cs)) {vs' : Array Value} (hc : av X w st.rt g cs' vs'.toList) : Rel X own0 w0 (st.aJ r (.box t cs')) a (w.setRow (g.b r) vs') g := by
 obtain ⟨vs, h1, h2, h3⟩ := h.mem.rt r _ hr
 have ay := aA hr
 have fL : ∀ b, b ≠ g.b r → (w.setRow (g.b r) vs').heap[b]? = w.heap[b]? := fun b hb => setRow_other w _ b vs' hb
 have aN : (w.setRow (g.b r) vs').heap.size = w.heap.size := setRow_size _ _ _
 have aS : ∀ b, g.own b = none → b ≠ g.b r := by rintro b hb rfl; rw [h2] at hb; cases hb
 have mB : ∀ b s, ¬ s = r → g.own b = some s → b ≠ g.b r := by rintro b s hs hb rfl; rw [h2] at hb; exact hs (Option.some.inj hb).symm
 have hK : bJ X (fun s => s = r) (fun _ => False) w g st.rt (w.setRow (g.b r) vs') g (st.aJ r (.box t cs')).rt := by
  refine ⟨fun b hb => ⟨⟨hb.1, by rw [aN]; exact hb.2.1, hb.2.2⟩, fL b (aS b hb.1)⟩, fun b s hs hb => ⟨hb, fL b (mB b s hs hb)⟩, fun _ _ _ => rfl, fun s e d xs hs aG => ?_, fun s t' qg hb => ⟨rfl, ?_⟩, fun _ hb => hb.elim⟩
  ·rw [bt, if_neg (fun he => hs he.symm)]; exact aG
  ·rw [bt]
   by_cases he : r = s
   ·subst he
    rw [hr] at hb; cases hb
    exact ⟨cs', by rw [if_pos rfl, if_pos ay]⟩
   ·exact ⟨qg, by rw [if_neg he]; exact hb⟩
 have vh : ∀ s, cZ st.rt s → ¬ s = r := by rintro s ⟨e, d, xs, hs⟩ rfl; rw [hr] at hs; cases hs
 have aL : ∀ x : Cl, x.aV (fun s => s = r) (fun _ => False) st.rt := fun x => by
  cases x <;> first | trivial | exact fun hs => .inl (vh _ hs)
 have bI : ∀ x : SV, x.aV (fun s => s = r) (fun _ => False) st.rt := fun x => by
  cases x with
  | c x => exact aL x
  | ag xs => exact fun y _ => aL y
  | po => exact fun hs => .inl (vh _ hs)
  | fn f ax =>
   intro y _
   cases y with
   | c x => exact aL x
   | _ => trivial
  | bc vs => exact fun y _ z _ => aL z
  | _ => trivial
 have zV : ∀ x : aa, x.aV (fun s => s = r) (fun _ => False) st.rt := fun x => by
  cases x with
  | box t cs => exact fun y _ => aL y
  | _ => trivial
 have hl : (st.aJ r (.box t cs')).rt.length = st.rt.length := by show (st.rt.set r _).length = _; rw [List.length_set]
 refine ⟨⟨fun i y hy => ?_, fun b hb => by rw [aN]; exact h.mem.lt b hb, fun b s hb => by rw [hl]; exact h.mem.ob b s hb, by rw [aN]; exact h.mem.n0, h.mem.np, by rw [hl]; exact h.mem.nl, h.mem.pm, h.mem.pv⟩, h.sz, fun i sv hi => az.keep h.mem hK (bI sv) (h.sl i sv hi), h.df,
  ⟨h.fr.os, h.fr.tape, h.fr.output, by rw [aN]; exact h.fr.size, fun b hb ho => ?_⟩⟩
 ·have rZ := hy
  rw [bt] at hy
  split at hy
  ·rename_i he; subst he
   obtain rfl := Option.some.inj hy
   exact ⟨vs', setRow_heap w _ _ _ _ _ h1, h2, av.keep h.mem hK (fun x _ => aL x) hc⟩
  ·rename_i he
   exact cr.keep h.mem hK hy (fun h => he h.symm) (zV y)
 ·obtain ⟨e1, e2⟩ := h.fr.block b hb ho
  exact ⟨e1, (fL b (aS b e1)).trans e2⟩
end
end Go.Proofs.YtbanfmadialnkaaGreat.Eng
namespace Go.Proofs.YtbanfmadialnkaaGreat.Eng
open Go.RowKit
set_option linter.unusedVariables false
section
variable {P : Program} {X : Ctx} {own0 : Nat → Option Nat} {w0 : World} {st : St} {a : Act} {w w' : World} {g g' : Gh} {R : Type}
theorem oW {e : TypeId} {size n : Nat} {b q c : Nat} {cs : List Value} (ho : bW w e size (.slice (some ⟨b, q, none⟩) n c) n cs) {i o : Nat} {vs : List Value} (hi : i < n) (mE : o + vs.length ≤ size) :
  ∃ cur cs', w.heap[b]? = some (.cells cur e (0, 0)) ∧ (q + (i * size + o)) + vs.length ≤ cur.size ∧ bW (w.setRow b (stored cur (q + (i * size + o)) vs)) e size (.slice (some ⟨b, q, none⟩) n c) n cs' ∧
   ∀ k, k < n * size → cs'[k]? = if i * size + o ≤ k ∧ k < i * size + o + vs.length then vs[k - (i * size + o)]? else cs[k]? := by
 obtain ⟨hlen, h⟩ := ho
 rcases h with ⟨h0, _⟩ | ⟨b', q', cap, cur, hv, hg, jy, js, bB, iV⟩
 ·cases h0
 ·cases hv
  have h1 := Nat.mul_le_mul_right size jy
  have h2 : i * size + size ≤ n * size := by
   have := Nat.mul_le_mul_right size (Nat.succ_le_of_lt hi)
   rwa [Nat.succ_mul] at this
  have h3 : (q + (i * size + o)) + vs.length ≤ cur.size := by omega
  refine ⟨cur, ((stored cur (q + (i * size + o)) vs).toList.drop q).take (n * size), hg, h3, ⟨?_, .inr ⟨b, q, c, stored cur (q + (i * size + o)) vs, rfl, setRow_heap w b cur _ e _ hg, jy, js, by rw [xf h3]; exact bB, rfl⟩⟩, fun k hk => ?_⟩
  ·rw [List.length_take, List.length_drop, Array.length_toList, xf h3]; omega
  ·rw [List.getElem?_take, if_pos hk, List.getElem?_drop, te h3]
   by_cases h4 : i * size + o ≤ k ∧ k < i * size + o + vs.length
   ·rw [if_pos h4, if_pos (by omega), show q + k - (q + (i * size + o)) = k - (i * size + o) from by omega]
   ·rw [if_neg h4, if_neg (by omega), ← iV, List.getElem?_take, if_pos hk, List.getElem?_drop]
theorem sk {i i' j' size o k : Nat} (hj : j' < size) (hk : o + k ≤ size) (h : i * size + o ≤ i' * size + j' ∧ i' * size + j' < i * size + o + k) : i' = i ∧ o ≤ j' ∧ j' < o + k := by
 have h1 : i' = i := by
  refine Nat.le_antisymm (Nat.le_of_not_lt fun ay => ?_) (Nat.le_of_not_lt fun ay => ?_)
  ·have := Nat.mul_le_mul_right size (Nat.succ_le_of_lt ay)
   rw [Nat.succ_mul] at this
   omega
  ·have := Nat.mul_le_mul_right size (Nat.succ_le_of_lt ay)
   rw [Nat.succ_mul] at this
   omega
 subst h1
 exact ⟨rfl, by omega, by omega⟩
theorem lh {ys : List (List U)} {i o : Nat} {us : List U} {i' : Nat} {x : List U} (h : (bR ys i o us)[i']? = some x) : (i' = i ∧ i < ys.length ∧ x = fj (ys.getD i []) o us) ∨ (i' ≠ i ∧ ys[i']? = some x) := by
 unfold bR at h
 rw [List.getElem?_set] at h
 by_cases he : i = i'
 ·subst he
  simp only [if_true] at h
  split at h
  ·rename_i hl; exact .inl ⟨rfl, hl, (Option.some.inj h).symm⟩
  ·cases h
 ·rw [if_neg he] at h
  exact .inr ⟨fun h => he h.symm, h⟩
theorem ao.bR {Fp : Nat → Prop} {e : TypeId} {ys : List (List U)} {b q n c : Nat} (h : ao X.T.ct w Fp (.aq e) (.lst ys) (.slice (some ⟨b, q, none⟩) n c)) {i o : Nat} (hi : i < ys.length) {cls : List Cl} {vs : List Value} {us : List U} {rs : List Nat}
  (hs : fm X st w g true (((X.T.ct e).drop o).take cls.length) cls vs us rs) (gh : vs.length = cls.length) (h0 : cls.length ≠ 0) (hn : rs.Nodup) (iO : ∀ b, Fp b → ∀ s ∈ rs, g.own b ≠ some s) :
  ∃ cur, w.heap[b]? = some (.cells cur e (0, 0)) ∧ Fp b ∧ (q + (i * X.T.size e + o)) + vs.length ≤ cur.size ∧
   ao X.T.ct (w.setRow b (stored cur (q + (i * X.T.size e + o)) vs)) (fun x => Fp x ∨ ∃ s ∈ rs, g.own x = some s) (.aq e) (.lst (bR ys i o us)) (.slice (some ⟨b, q, none⟩) n c) := by
 cases h with
 | row _ _ _ _ cs V bq ho hg hV aN hh =>
  have bT : ys.length = n := by
   obtain ⟨A, c', hv, _⟩ := fi ho
   cases hv; rfl
  subst bT
  have hk : o + cls.length ≤ (X.T.ct e).length := by
   have := hs.l2
   rw [List.length_take, List.length_drop] at this
   omega
  have mz : us.length = cls.length := hs.l1.trans hs.l2.symm
  obtain ⟨cur, cs', qU, dV, bk, bz⟩ := oW (vs := vs) (o := o) ho hi (by rw [gh]; exact hk)
  obtain ⟨jr, uZ⟩ := hg b rfl
  refine ⟨cur, qU, jr, dV, ?_⟩
  have hx := eG (d := []) hi
  have aG : (ys.getD i []).length = (X.T.ct e).length := aN i _ hx
  have jy : ∀ x, Fp x → ¬ ∃ j, CF g cls j x := by
   rintro x hF ⟨j, r, p, e', h1, h2⟩
   exact iO x hF r (hs.mem j r p e' h1) h2
  classical
  let kL : Nat → Option (Nat × Nat) := fun x => if hx : ∃ j, CF g cls j x then some (i, o + Classical.choose hx) else bq x
  have vP : ∀ x, Fp x → kL x = bq x := fun x hF => dif_neg (jy x hF)
  have lab2 : ∀ x j, CF g cls j x → kL x = some (i, o + j) := by
   intro x j hj
   have hex : ∃ j, CF g cls j x := ⟨j, hj⟩
   show (if hx : ∃ j, CF g cls j x then some (i, o + Classical.choose hx) else bq x) = _
   rw [dif_pos hex]
   have h2 := Classical.choose_spec hex
   generalize Classical.choose hex = j2 at h2
   obtain ⟨r, p, e', h3, h4⟩ := hj
   obtain ⟨r', p', e2, h5, h6⟩ := h2
   obtain rfl : r = r' := by rw [h4] at h6; exact Option.some.inj h6
   rw [hs.jY hn j j2 r p e' p' e2 h3 h5]
  have aS : ∀ x, x ≠ b → (w.setRow b (stored cur (q + (i * X.T.size e + o)) vs)).heap[x]? = w.heap[x]? := fun x hx => setRow_other w b x _ hx
  have mX : ∀ (i' j' : Nat) (y : List U) (u : U) (ct : CT), ys[i']? = some y → y[j']? = some u → (X.T.ct e)[j']? = some ct → ao X.T.ct (w.setRow b (stored cur (q + (i * X.T.size e + o)) vs)) (fun x => (Fp x ∨ ∃ s ∈ rs, g.own x = some s) ∧ kL x = some (i', j')) ct u (V i' j') := by
   intro i' j' y u ct hy hu ah
   refine (hh i' j' y u ct hy hu ah).imp fun x hx => ⟨⟨.inl hx.1, by rw [vP x hx.1]; exact hx.2⟩, aS x ?_⟩
   rintro rfl
   rw [uZ] at hx; cases hx.2
  refine .row _ e _ _ cs' (fun i' j' => if i' = i ∧ o ≤ j' ∧ j' < o + cls.length then (vs[j' - o]?).getD undef else V i' j') kL (by show _ = _ ∧ _; rw [Eng.bR, List.length_set]; exact bk) (fun b' au => ?_) (fun i' j' y hy hj => ?_) (fun i' y hy => ?_) (fun i' j' y u ct hy hu ah => ?_)
  ·simp only [Value.ownBlock, Option.some.injEq] at au
   subst au
   exact ⟨.inl jr, by rw [vP b jr]; exact uZ⟩
  ·have db : i' < ys.length := by
    have := aA hy
    rwa [Eng.bR, List.length_set] at this
   have gW : y.length = (X.T.ct e).length := by
    rcases lh hy with ⟨_, _, rfl⟩ | ⟨_, ck⟩
    ·rw [ni]; exact aG
    ·exact aN i' y ck
   have eY : j' < X.T.size e := by rw [gW] at hj; exact hj
   have jv := hQ db eY
   have h1 := bz (i' * X.T.size e + j') jv
   rw [gh, show (X.T.ct e).length = X.T.size e from rfl] at h1
   rw [show (X.T.ct e).length = X.T.size e from rfl, h1]
   by_cases bC : i' = i ∧ o ≤ j' ∧ j' < o + cls.length
   ·obtain ⟨rfl, h2, h3⟩ := bC
    rw [if_pos (by omega), if_pos ⟨rfl, h2, h3⟩, show i' * X.T.size e + j' - (i' * X.T.size e + o) = j' - o from by omega, List.getElem?_eq_getElem (by omega)]
    rfl
   ·rw [if_neg (fun hc => bC (sk (k := cls.length) eY hk hc)), if_neg bC]
    exact hV i' j' _ (eG (d := []) db) (by rw [aN i' _ (eG (d := []) db)]; exact eY)
  ·rcases lh hy with ⟨_, _, rfl⟩ | ⟨_, ck⟩
   ·rw [ni]; exact aG
   ·exact aN i' y ck
  ·rcases lh hy with ⟨rfl, _, rfl⟩ | ⟨mB, ck⟩
   ·rw [td _ _ _ _ (by rw [mz, aG]; exact hk), mz] at hu
    by_cases bC : o ≤ j' ∧ j' < o + cls.length
    ·rw [if_pos bC] at hu
     rw [if_pos ⟨rfl, bC.1, bC.2⟩]
     have hv : vs[j' - o]? = some ((vs[j' - o]?).getD undef) := by
      rw [List.getElem?_eq_getElem (by omega)]; rfl
     have qN : (((X.T.ct e).drop o).take cls.length)[j' - o]? = some ct := by
      rw [List.getElem?_take, if_pos (by omega), List.getElem?_drop, show o + (j' - o) = j' from by omega]; exact ah
     refine (hs.own rfl (j' - o) u ct _ hu qN hv).imp fun x hx => ?_
     have bZ := hx
     obtain ⟨r, p, e', h3, h4⟩ := hx
     have kH := hs.mem _ r p e' h3
     refine ⟨⟨.inr ⟨r, kH, h4⟩, by rw [lab2 x _ bZ, show o + (j' - o) = j' from by omega]⟩, aS x ?_⟩
     rintro rfl
     exact iO _ jr r kH h4
    ·rw [if_neg bC] at hu
     rw [if_neg (fun hc => bC hc.2)]
     exact mX i' j' _ u ct hx hu ah
   ·rw [if_neg (fun hc => mB hc.1)]
    exact mX i' j' y u ct ck hu ah
theorem ba.bR {Fp ok : Nat → Prop} {e : TypeId} {ys : List (List U)} {b q n c : Nat} (h : ba X.T.ct w Fp ok e ys (.slice (some ⟨b, q, none⟩) n c)) {i o : Nat} (hi : i < ys.length) {cls : List Cl} {vs : List Value} {us : List U} {rs : List Nat}
  (hs : fm X st w g false (((X.T.ct e).drop o).take cls.length) cls vs us rs) (gh : vs.length = cls.length) (h0 : cls.length ≠ 0) (bo : ∀ x, ok x → x ≠ b) (vj : ∀ x, ak X w g x → ok x) :
  ∃ cur, w.heap[b]? = some (.cells cur e (0, 0)) ∧ Fp b ∧ (q + (i * X.T.size e + o)) + vs.length ≤ cur.size ∧
   ba X.T.ct (w.setRow b (stored cur (q + (i * X.T.size e + o)) vs)) Fp ok e (bR ys i o us) (.slice (some ⟨b, q, none⟩) n c) := by
 obtain ⟨cs, V, ho, hg, hV, aN, hh⟩ := h.ex
 have bT : ys.length = n := by
  obtain ⟨A, c', hv, _⟩ := fi ho
  cases hv; rfl
 subst bT
 have hk : o + cls.length ≤ (X.T.ct e).length := by
  have := hs.l2
  rw [List.length_take, List.length_drop] at this
  omega
 have mz : us.length = cls.length := hs.l1.trans hs.l2.symm
 obtain ⟨cur, cs', qU, dV, bk, bz⟩ := oW (vs := vs) (o := o) ho hi (by rw [gh]; exact hk)
 have jr := hg b rfl
 refine ⟨cur, qU, jr, dV, ?_⟩
 have hx := eG (d := []) hi
 have aG : (ys.getD i []).length = (X.T.ct e).length := aN i _ hx
 have aS : ∀ x, x ≠ b → (w.setRow b (stored cur (q + (i * X.T.size e + o)) vs)).heap[x]? = w.heap[x]? := fun x hx => setRow_other w b x _ hx
 have mX : ∀ (i' j' : Nat) (y : List U) (u : U) (ct : CT), ys[i']? = some y → y[j']? = some u → (X.T.ct e)[j']? = some ct → aC X.T.ct (w.setRow b (stored cur (q + (i * X.T.size e + o)) vs)) ok ct u (V i' j') :=
  fun i' j' y u ct hy hu ah => (hh i' j' y u ct hy hu ah).imp fun x hx => ⟨hx, aS x (bo x hx)⟩
 refine ⟨cs', fun i' j' => if i' = i ∧ o ≤ j' ∧ j' < o + cls.length then (vs[j' - o]?).getD undef else V i' j', (by show _ = _ ∧ _; rw [Eng.bR, List.length_set]; exact bk), (fun b' au => ?_), (fun i' j' y hy hj => ?_), (fun i' y hy => ?_), (fun i' j' y u ct hy hu ah => ?_)⟩
 ·simp only [Value.ownBlock, Option.some.injEq] at au
  subst au
  exact jr
 ·dsimp only
  have db : i' < ys.length := by
   have := aA hy
   rwa [Eng.bR, List.length_set] at this
  have gW : y.length = (X.T.ct e).length := by
   rcases lh hy with ⟨_, _, rfl⟩ | ⟨_, ck⟩
   ·rw [ni]; exact aG
   ·exact aN i' y ck
  have eY : j' < X.T.size e := by rw [gW] at hj; exact hj
  have jv := hQ db eY
  have h1 := bz (i' * X.T.size e + j') jv
  rw [gh, show (X.T.ct e).length = X.T.size e from rfl] at h1
  rw [show (X.T.ct e).length = X.T.size e from rfl, h1]
  by_cases bC : i' = i ∧ o ≤ j' ∧ j' < o + cls.length
  ·obtain ⟨rfl, h2, h3⟩ := bC
   rw [if_pos (by omega), if_pos ⟨rfl, h2, h3⟩, show i' * X.T.size e + j' - (i' * X.T.size e + o) = j' - o from by omega, List.getElem?_eq_getElem (by omega)]
   rfl
  ·rw [if_neg (fun hc => bC (sk (k := cls.length) eY hk hc)), if_neg bC]
   exact hV i' j' _ (eG (d := []) db) (by rw [aN i' _ (eG (d := []) db)]; exact eY)
 ·rcases lh hy with ⟨_, _, rfl⟩ | ⟨_, ck⟩
  ·rw [ni]; exact aG
  ·exact aN i' y ck
 ·dsimp only
  rcases lh hy with ⟨rfl, _, rfl⟩ | ⟨mB, ck⟩
  ·rw [td _ _ _ _ (by rw [mz, aG]; exact hk), mz] at hu
   by_cases bC : o ≤ j' ∧ j' < o + cls.length
   ·rw [if_pos bC] at hu
    rw [if_pos ⟨rfl, bC.1, bC.2⟩]
    have hv : vs[j' - o]? = some ((vs[j' - o]?).getD undef) := by
     rw [List.getElem?_eq_getElem (by omega)]; rfl
    have qN : (((X.T.ct e).drop o).take cls.length)[j' - o]? = some ct := by
     rw [List.getElem?_take, if_pos (by omega), List.getElem?_drop, show o + (j' - o) = j' from by omega]; exact ah
    exact (hs.rd rfl (j' - o) u ct _ hu qN hv).imp fun x hx => ⟨vj x hx, aS x (bo x (vj x hx))⟩
   ·rw [if_neg bC] at hu
    rw [if_neg (fun hc => bC hc.2)]
    exact mX i' j' _ u ct hx hu ah
  ·rw [if_neg (fun hc => mB hc.1)]
   exact mX i' j' y u ct ck hu ah
theorem ao.setCell {T : bg} {w : World} {F : Nat → Prop} {e : TypeId} {ys : List (List U)} {b q n c i o : Nat} {x : List U} {u1 : U} {cu : CT} {v1 : Value} (h : ao T w F (.aq e) (.lst ys) (.slice (some ⟨b, q, none⟩) n c)) (hx : ys[i]? = some x) (hu : x[o]? = some u1) (ah : (T e)[o]? = some cu)
  (hc : w.cell? ⟨b, q + (i * (T e).length + o), none⟩ = some v1) : ∃ (cur : Array Value) (Fo : Nat → Prop), w.heap[b]? = some (.cells cur e (0, 0)) ∧ F b ∧ ¬ Fo b ∧ q + (i * (T e).length + o) + 1 ≤ cur.size ∧ (∀ b', Fo b' → F b') ∧ ao T w Fo cu u1 v1 ∧
   ∀ (w' : World) (N : Nat → Prop) (u' : U) (v' : Value), (∀ b', F b' → ¬ Fo b' → b' ≠ b → w'.heap[b']? = w.heap[b']?) → w'.heap[b]? = some (.cells (stored cur (q + (i * (T e).length + o)) [v']) e (0, 0)) → ao T w' N cu u' v' → (∀ b', N b' → Fo b' ∨ ¬ F b') →
    ao T w' (fun b' => (F b' ∧ ¬ Fo b') ∨ N b') (.aq e) (.lst (ys.set i (x.set o u'))) (.slice (some ⟨b, q, none⟩) n c) := by
 cases h with
 | row _ _ _ _ cs V bq ho hg hV aN hh =>
  have bT : ys.length = n := by
   obtain ⟨A, c', hv, _⟩ := fi ho
   cases hv; rfl
  subst bT
  have hi := aA hx
  have CA : o < (T e).length := aA ah
  obtain ⟨gF, gl⟩ := hg b rfl
  have dh := hX ho (hV i o x hx (aA hu))
  obtain rfl := Option.some.inj (dh.symm.trans hc)
  obtain ⟨cur, cs0, k1, k2, -, -⟩ := oW (vs := [undef]) (o := o) ho hi (by simp; omega)
  refine ⟨cur, fun b' => F b' ∧ bq b' = some (i, o), k1, gF, fun hb => (by have := hb.2; rw [gl] at this; cases this), by simpa using k2, fun b' hb => hb.1, hh i o x u1 cu hx hu ah, fun w' N u' v' hw hb hr hN => ?_⟩
  obtain ⟨yj, cs', k3, k4, k5, k6⟩ := oW (vs := [v']) (o := o) ho hi (by simp; omega)
  obtain rfl : cur = yj := by rw [k1] at k3; cases k3; rfl
  have bk : bW w' e (T e).length (.slice (some ⟨b, q, none⟩) ys.length c) ys.length cs' := by
   refine kV k5 fun g' cK => ?_
   simp only [Value.ownBlock, Option.some.injEq] at cK
   subst cK
   rw [hb]
   exact (setRow_heap w b cur _ e _ k1).symm
  have yR : ¬ N b := fun hn => (hN b hn).elim (fun hb => by have := hb.2; rw [gl] at this; cases this) fun gP => gP gF
  classical
  refine .row _ e _ _ cs' (fun i' j' => if i' = i ∧ j' = o then v' else V i' j') (fun b' => if N b' then some (i, o) else bq b') (by rw [List.length_set]; exact bk) (fun g' cK => ?_) (fun i' j' y hy hj => ?_) (fun i' y hy => ?_) (fun i' j' y u2 iE hy dA mh => ?_)
  ·simp only [Value.ownBlock, Option.some.injEq] at cK
   subst cK
   exact ⟨.inl ⟨gF, fun hb => by have := hb.2; rw [gl] at this; cases this⟩, by rw [if_neg yR]; exact gl⟩
  ·have gW : i' < ys.length ∧ y.length = (T e).length := by
    rw [List.getElem?_set] at hy
    split at hy
    ·rename_i he; subst he
     obtain rfl := Option.some.inj hy
     exact ⟨hi, by rw [List.length_set]; exact aN i x hx⟩
    ·exact ⟨aA hy, aN i' y hy⟩
   obtain ⟨db, gW⟩ := gW
   rw [gW] at hj
   have jv := hQ db hj
   have h1 := k6 (i' * (T e).length + j') jv
   rw [h1]
   simp only [List.length_cons, List.length_nil]
   by_cases bC : i' = i ∧ j' = o
   ·obtain ⟨rfl, rfl⟩ := bC
    rw [if_pos (by omega), if_pos ⟨rfl, rfl⟩, Nat.sub_self]; rfl
   ·rw [if_neg (fun Cw => bC (by have := sk (k := 1) (i := i) (i' := i') (o := o) hj (by omega) (by omega); omega)), if_neg bC]
    have ck := List.getElem?_eq_getElem db
    exact hV i' j' _ ck (by rw [aN i' _ ck]; exact hj)
  ·rw [List.getElem?_set] at hy
   split at hy
   ·rename_i he; subst he
    obtain rfl := Option.some.inj hy
    rw [List.length_set]; exact aN i x hx
   ·exact aN i' y hy
  ·have other : ∀ (y : List U) (u2 : U), ys[i']? = some y → y[j']? = some u2 → ¬ (i' = i ∧ j' = o) → ao T w' (fun b => ((F b ∧ ¬ (F b ∧ bq b = some (i, o))) ∨ N b) ∧ (if N b then some (i, o) else bq b) = some (i', j')) iE u2 (if i' = i ∧ j' = o then v' else V i' j') := by
    intro y u2 hy dA aS
    rw [if_neg aS]
    refine (hh i' j' y u2 iE hy dA mh).imp fun b' au => ?_
    have aY : ¬ (F b' ∧ bq b' = some (i, o)) := fun hp => by rw [au.2] at hp; exact aS (by have := Option.some.inj hp.2; exact ⟨(Prod.mk.inj this).1, (Prod.mk.inj this).2⟩)
    have rn : ¬ N b' := fun hn => (hN b' hn).elim aY fun gP => gP au.1
    refine ⟨⟨.inl ⟨au.1, aY⟩, by rw [if_neg rn]; exact au.2⟩, hw b' au.1 aY ?_⟩
    rintro rfl
    have := au.2
    rw [gl] at this; cases this
   rw [List.getElem?_set] at hy
   split at hy
   ·rename_i he; subst he
    obtain rfl := Option.some.inj hy
    rw [List.getElem?_set] at dA
    split at dA
    ·rename_i ju; subst ju
     split at dA
     ·obtain rfl := Option.some.inj dA
      obtain rfl := Option.some.inj (ah.symm.trans mh)
      rw [if_pos ⟨rfl, rfl⟩]
      refine hr.mono fun b' au => ⟨.inr au, by rw [if_pos au]⟩
     ·cases dA
    ·rename_i ju
     exact other x u2 hx dA fun et => ju et.2.symm
   ·rename_i he
    exact other y u2 hy dA fun et => he et.1.symm
def Gh.merge (g : Gh) (r : Nat) (rs : List Nat) : Gh := ⟨fun x => match g.own x with | some s => if s ∈ rs then some r else some s | none => none, g.v, g.b⟩
theorem Gh.kP {x r : Nat} {rs : List Nat} : (g.merge r rs).own x = none ↔ g.own x = none := by
 show (match g.own x with | some s => if s ∈ rs then some r else some s | none => none) = none ↔ _
 cases g.own x with
 | none => simp
 | some s => by_cases hs : s ∈ rs <;> simp [hs]
theorem Gh.jM {x r s : Nat} {rs : List Nat} (h : g.own x = some s) : (g.merge r rs).own x = if s ∈ rs then some r else some s := by
 show (match g.own x with | some s => if s ∈ rs then some r else some s | none => none) = _
 rw [h]
theorem wX (v : Bool) : ∀ (bs : List Bool) (o k : Nat), k ≤ o → ik v o bs k = (bs.map Cl.bool).set (o - k) (.bool v)
 | [], o, k, h => by simp [ik]
 | b :: bs, o, k, h => by
  unfold ik
  by_cases hk : k = o
  ·subst hk
   have e : ∀ (bs : List Bool) (j : Nat), k < j → ik v k bs j = bs.map Cl.bool := by
    intro bs
    induction bs with
    | nil => intro j _; rfl
    | cons c bs ih => intro j hj; unfold ik; rw [ih (j + 1) (by omega), decide_eq_false (by omega)]; rfl
   rw [e bs (k + 1) (by omega), decide_eq_true rfl, Nat.sub_self]; rfl
  ·rw [wX v bs o (k + 1) (by omega), decide_eq_false hk, show o - k = (o - (k + 1)) + 1 from by omega]; rfl
theorem xM {T : aw} {t' t : TypeId} {cF cs : List Cl} {bs : List Bool} {v : Bool} {o : Nat} (h : pV T t' t cF cs = some (bs, v)) (ho : o < bs.length) : o + cs.length ≤ cF.length ∧ fO cF o cs = ik v o bs 0 := by
 unfold pV at h
 split at h
 ·rename_i Cm v' h1
  cases h
  have h2 : cF = bs.map .bool := by
   unfold gx at h1
   split at h1
   ·exact lN h1
   ·cases h1
  subst h2
  refine ⟨by simp; omega, ?_⟩
  rw [wX v bs o 0 (Nat.zero_le _)]; rfl
 ·cases h
theorem xe (hT : aU P X.T) (h : Rel X own0 w0 st a w g) {o : Oper} {t : TypeId} {x y : Operand} (ho : o.op = .store t x y) {K : St → Option R} {r : R} (hq : dD X.T st t (ev st x) (ev st y) o.dst K = some r) :
  ∃ ab, K ab = some r ∧ bm P X own0 w0 o a w ab := by
 have hx := aX h x
 have hy := aX h y
 unfold dD at hq
 split at hq
 ·rename_i cs bB
  have hc := qc h hy bB
  have aL := hc.length
  split at hq
  ·rename_i hh
   obtain ⟨aN, ht, cj⟩ := hh
   have gh : (a.eval y).cells.size = X.T.size t := by rw [← Array.length_toList, ← aL]; exact aN
   have vk := hc.wj h.mem
   generalize ev st x = sx at *
   split at hq
   ·rename_i r0 o0
    split at hq
    ·rename_i t' cF hr
     have hq : (if o0 + cs.length ≤ cF.length then K ((st.aJ r0 (.box t' (fO cF o0 cs))).put o.dst .no) else none) = some r := by
      split at hq
      ·rename_i bs v hb
       cases hz : decide (o0 < bs.length) with
       | false => rw [hz] at hq; cases hq
       | true =>
        rw [hz] at hq
        obtain ⟨q1, q2⟩ := xM hb (of_decide_eq_true hz)
        rw [if_pos q1, q2]; exact hq
      ·exact hq
     split at hq
     ·rename_i hl
      refine ⟨_, hq, ?_⟩
      obtain ⟨vs, h1, h2, h3⟩ := h.mem.rt r0 _ hr
      have yM := h3.length
      have hle : o0 + (a.eval y).cells.toList.length ≤ vs.size := by
       have q1 : vs.toList.length = vs.size := Array.length_toList
       rw [← q1, ← yM, ← aL]; exact hl
      obtain ⟨he, _⟩ := hx
      have hb := h.wY hr (cs' := fO cF o0 cs) (vs' := stored vs o0 (a.eval y).cells.toList) (by rw [BY hle]; exact h3.fj o0 hc)
      refine bm.skip (w' := w.setRow (g.b r0) (stored vs o0 (a.eval y).cells.toList)) ?_ (hb.put o.dst (sv := .no) (v := undef) trivial)
      have := sX hT ht gh h1 hle vk
      simp [execOp, ho, he, this]
     ·cases hq
    ·cases hq
   ·rename_i r0 p e i o0
    split at hq
    ·rename_i e0 deep xs hr
     split at hq
     ·rename_i us rs di
      split at hq
      ·rename_i hh
       obtain ⟨kA, qO⟩ := hh
       refine ⟨_, hq, ?_⟩
       have zP := kQ kA
       have cU := List.nodup_cons.1 zP
       have hs := iG h.mem di hc
       obtain ⟨gD, d', bY, b, q, n, c, h1, h2, h3, h4, h5⟩ := hx
       obtain ⟨rfl, rfl, rfl⟩ : e0 = gD ∧ deep = d' ∧ xs = bY := by rw [hr] at h1; cases h1; exact ⟨rfl, rfl, rfl⟩
       have bp := h.mem.rt r0 _ hr
       have iU : ∀ s ∈ rs, cZ st.rt s := fun s aM => by obtain ⟨⟨e', ys, hh⟩, _⟩ := hs.row s aM; exact ⟨e', true, ys, hh⟩
       have mA : cD rs = true := sE cU.2
       have fe : (a.eval y).cells.toList.length = cs.length := aL.symm
       have uP : cs.length ≠ 0 := by rw [aN]; exact cj
       
       have key : ∃ cur, w.heap[b]? = some (.cells cur e (0, 0)) ∧ g.own b = some r0 ∧ (q + (i * X.T.size e + o0)) + (a.eval y).cells.toList.length ≤ cur.size ∧
         ∀ rt', cr X (w.setRow b (stored cur (q + (i * X.T.size e + o0)) (a.eval y).cells.toList)) rt' (g.merge r0 rs) r0 (.row e0 deep (cq xs p (bR (aW xs p) i o0 us))) := by
        cases deep with
        | true =>
         have bp : ao _ _ _ _ _ _ := bp
         obtain ⟨Fp, f1, f2, f3⟩ := ao.focus h3 bp
         obtain ⟨cur, k1, k2, k3, k4⟩ := ao.bR f2 h4 hs fe uP cU.2 fun b' au s aM aR => by
          have := f1 b' au
          rw [this] at aR
          obtain rfl := Option.some.inj aR
          exact cU.1 aM
         refine ⟨cur, k1, f1 b k2, k3, fun rt' => ?_⟩
         have k5 := f3 _ _ _ (fun e' aR => by obtain rfl := CT.aq.inj aR; exact k4) ⟨e, rfl⟩ (fun b' au bT => setRow_other w b b' _ (by rintro rfl; exact bT k2)) (fun b' au => by
          rcases au with au | ⟨s, aM, aR⟩
          ·exact .inl au
          ·right; intro hf; rw [hf] at aR; obtain rfl := Option.some.inj aR; exact cU.1 aM)
         have e1 : (if p = [] then (.lst (bR (aW xs p) i o0 us) : U) else .lst (cq (U.lst xs).bX p (bR (aW xs p) i o0 us))) = .lst (cq xs p (bR (aW xs p) i o0 us)) := by
          split
          ·rename_i hp; subst hp; rfl
          ·rfl
         rw [e1] at k5
         show ao _ _ _ _ _ (g.v r0)
         refine k5.mono fun b' au => ?_
         rcases au with au | au | ⟨s, aM, aR⟩
         ·rw [Gh.jM au, if_neg cU.1]
         ·rw [Gh.jM (f1 b' au), if_neg cU.1]
         ·rw [Gh.jM aR, if_pos aM]
        | false =>
         obtain rfl : p = [] := by simpa using h2
         have bp : ba _ _ _ _ _ _ _ := bp
         obtain ⟨q1, -, q3⟩ := h3.cC
         obtain rfl := CT.aq.inj q1
         rw [← q3] at bp
         obtain ⟨cur, k1, k2, k3, k4⟩ := ba.bR bp h4 hs fe uP (fun x bZ => by
          rintro rfl
          obtain ⟨qg, V2, rq, kp, _⟩ := bp.ex
          have := kp x rfl
          have h9 := bZ.1
          rw [this] at h9; cases h9) (fun x bZ => bZ)
         refine ⟨cur, k1, k2, k3, fun rt' => ?_⟩
         show ba _ _ _ _ _ _ (g.v r0)
         rw [← q3]
         refine k4.imp (fun b' au => ⟨by rw [Gh.jM au, if_neg cU.1], rfl⟩) (fun b' au => ⟨⟨Gh.kP.2 au.1, by rw [setRow_size]; exact au.2.1, au.2.2⟩, rfl⟩)
       obtain ⟨cur, k1, k2, k3, k4⟩ := key
       have h6 := h.consume rs iU mA
       have gS : (st.consume rs).rt[r0]? = some (.row e0 deep xs) := (qf rs cU.1).2 hr
       have fL : ∀ b', b' ≠ b → (w.setRow b (stored cur (q + (i * X.T.size e + o0)) (a.eval y).cells.toList)).heap[b']? = w.heap[b']? := fun b' au => setRow_other w b b' _ au
       have ri := aA gS
       have hK : bJ X (fun s => s = r0 ∨ s ∈ rs) (fun s => s = r0 ∧ true = true) w g ((st.consume rs).af r0 true).rt (w.setRow b (stored cur (q + (i * X.T.size e + o0)) (a.eval y).cells.toList)) (g.merge r0 rs)
         (((st.consume rs).af r0 true).aJ r0 (.row e0 deep (cq xs p (bR (aW xs p) i o0 us)))).rt := by
        refine ⟨fun b' au => ⟨⟨Gh.kP.2 au.1, by rw [setRow_size]; exact au.2.1, au.2.2⟩, fL b' (by rintro rfl; have := au.1; rw [k2] at this; cases this)⟩, fun b' s aM au => ?_, fun _ _ _ => rfl, fun s e' d' ys aM aG => ?_, fun s t' cs' au => ⟨rfl, ?_⟩, fun s aM => ⟨rfl, fun e' d' ys aG => ?_⟩⟩
        ·simp only [not_or] at aM
         exact ⟨by rw [Gh.jM au, if_neg aM.2], fL b' (by rintro rfl; rw [k2] at au; exact aM.1 (Option.some.inj au).symm)⟩
        ·simp only [not_or] at aM
         rw [bt, if_neg (fun he => aM.1 he.symm)]; exact aG
        ·refine ⟨cs', ?_⟩
         rw [bt, if_neg]
         ·exact au
         ·rintro rfl
          rw [cp, gS] at au; cases au
        ·obtain ⟨rfl, -⟩ := aM
         rw [cp, gS] at aG
         cases aG
         refine ⟨deep, cq xs p (bR (aW xs p) i o0 us), ?_, ?_⟩
         ·rw [bt, if_pos rfl, if_pos (by show s < ((st.consume rs).rt.map _).length; rw [List.length_map]; exact ri)]
         ·cases p with
          | nil => exact List.length_set
          | cons a p => obtain ⟨i', o'⟩ := a; rw [sY, List.length_set]
       have h7 := h6.change r0 true (Q := fun s => s ∈ rs) (qz (nP rs (St.eF st))) (fun s z aM _ hz => by rw [lQ rs iU mA aM] at hz; exact (Option.some.inj hz).symm) (.row e0 deep (cq xs p (bR (aW xs p) i o0 us)))
        hK (k4 _) (fun b' au => by rw [setRow_size]; exact h.mem.lt b' fun hn => au (Gh.kP.2 hn)) (fun b' s au => by
         rw [jl]
         cases bZ : g.own b' with
         | none => rw [Gh.kP.2 bZ] at au; cases au
         | some s' =>
          rw [Gh.jM bZ] at au
          split at au
          ·cases au; rw [← jl rs st]; exact ri
          ·cases au; exact h.mem.ob b' _ bZ) (by rw [setRow_size]; exact Nat.le_refl _) (fun b' s au => by
         cases bZ : g.own b' with
         | none => rw [Gh.kP.2 bZ] at au; cases au
         | some s' =>
          rw [Gh.jM bZ] at au
          have h8 := h.mem.pm b' s' bZ
          split at au
          ·rename_i hm
           have := (hs.row s' hm).2
           rw [h.mem.np] at this
           exact .inl (h8.resolve_right fun hh => by omega)
          ·cases au; exact h8) h.mem.pv
        ⟨h.fr.os, h.fr.tape, h.fr.output, by rw [setRow_size]; exact h.fr.size, fun b' au bk => by
         obtain ⟨e1, e2⟩ := h.fr.block b' au bk
         exact ⟨Gh.kP.2 e1, (fL b' (by rintro rfl; rw [k2] at e1; cases e1)).trans e2⟩⟩
       refine bm.skip (w' := w.setRow b (stored cur (q + (i * X.T.size e + o0)) (a.eval y).cells.toList)) ?_ (h7.put o.dst (sv := .no) (v := undef) trivial)
       have := sX hT ht gh k1 k3 vk
       simp [execOp, ho, h5, this]
      ·cases hq
     ·cases hq
    ·cases hq
   ·cases hq
  ·cases hq
 ·cases hq
end
end Go.Proofs.YtbanfmadialnkaaGreat.Eng
namespace Go.Proofs.YtbanfmadialnkaaGreat.Eng
open Go.RowKit
set_option linter.unusedVariables false
section
variable {P : Program} {X : Ctx} {own0 : Nat → Option Nat} {w0 : World} {st : St} {a : Act} {w w' : World} {g g' : Gh} {R : Type}
structure tp (P : Program) (w : World) (t ty e : TypeId) (size : Nat) (v x v' : Value) (w' : World) (cs news : List Value) (n m : Nat) : Prop where
 run : (Builtin.append_ #[t, t] ty #[v, x]).run P w = .ok v' w'
 own : bW w' e size v' (n + m) (cs ++ news)
 grown : w.grownBy w' v.ownBlock
 tH : v'.ownBlock = v.ownBlock ∨ v'.ownBlock = some w.heap.size
 cF : bW w' e size v n cs
def Gh.grow (g : Gh) (r : Nat) (rs : List Nat) (b : Nat) (v' : Value) : Gh :=
 ⟨fun x => if x = b then (if v'.ownBlock = some b then some r else none) else match g.own x with | some s => if s ∈ rs then some r else some s | none => none, fun s => if s = r then v' else g.v s, g.b⟩
theorem Gh.uE {r b x : Nat} {rs : List Nat} {v' : Value} (hx : x ≠ b) (h : g.own x = none) : (g.grow r rs b v').own x = none := by
 show (if x = b then _ else _) = _
 rw [if_neg hx, h]
theorem Gh.lX {r b x s : Nat} {rs : List Nat} {v' : Value} (hx : x ≠ b) (h : g.own x = some s) : (g.grow r rs b v').own x = if s ∈ rs then some r else some s := by
 show (if x = b then _ else _) = _
 rw [if_neg hx, h]
theorem Rel.nH (h : Rel X own0 w0 st a w g) {r : Nat} {e : TypeId} {deep : Bool} {xs ys : List (List U)} (hr : st.rt[r]? = some (.row e deep xs)) (aY : st.np ≤ r) {rs : List Nat} (jC : ∀ s ∈ rs, cZ st.rt s ∧ st.np ≤ s) (hn : cD (r :: rs) = true)
  {t ty : TypeId} {x : Value} {news : List Value} {V2 : Nat → Nat → Value} {lab2 : Nat → Option (Nat × Nat)} (mI : ∀ (i : Nat) y, ys[i]? = some y → y.length = (X.T.ct e).length) (kl : ∀ (i j : Nat) (y : List U), ys[i]? = some y → j < y.length → news[i * X.T.size e + j]? = some (V2 i j))
  (zo : deep = true → ∀ (i j : Nat) (y : List U) (u : U) (ct : CT), ys[i]? = some y → y[j]? = some u → (X.T.ct e)[j]? = some ct → ao X.T.ct w (fun b => (∃ s ∈ rs, g.own b = some s) ∧ lab2 b = some (i, j)) ct u (V2 i j))
  (dW : deep = false → ∀ (i j : Nat) (y : List U) (u : U) (ct : CT), ys[i]? = some y → y[j]? = some u → (X.T.ct e)[j]? = some ct → aC X.T.ct w (ak X w g) ct u (V2 i j))
  (gT : ∀ cs, bW w e (X.T.size e) (g.v r) xs.length cs → ∃ v' w', tp P w t ty e (X.T.size e) (g.v r) x v' w' cs news xs.length ys.length) :
  ∃ v' w' g', (Builtin.append_ #[t, t] ty #[g.v r, x]).run P w = .ok v' w' ∧ Rel X own0 w0 (((st.consume rs).af r false).aJ r (.row e deep (xs ++ ys))) a w' g' ∧ g'.v r = v' := by
 have bT := kQ hn
 have cU := List.nodup_cons.1 bT
 have iU : ∀ s ∈ rs, cZ st.rt s := fun s hs => (jC s hs).1
 have mA : cD rs = true := sE cU.2
 have h6 := h.consume rs iU mA
 have gS : (st.consume rs).rt[r]? = some (.row e deep xs) := (qf rs cU.1).2 hr
 have ri := aA gS
 have bp := h.mem.rt r _ hr
 
 have cF : ∃ (cs : List Value) (V : Nat → Nat → Value) (bq : Nat → Option (Nat × Nat)), bW w e (X.T.size e) (g.v r) xs.length cs ∧ (∀ b, (g.v r).ownBlock = some b → g.own b = some r ∧ bq b = none) ∧
   (∀ (i j : Nat) (y : List U), xs[i]? = some y → j < y.length → cs[i * X.T.size e + j]? = some (V i j)) ∧ (∀ (i : Nat) y, xs[i]? = some y → y.length = (X.T.ct e).length) ∧
   (deep = true → ∀ (i j : Nat) (y : List U) (u : U) (ct : CT), xs[i]? = some y → y[j]? = some u → (X.T.ct e)[j]? = some ct → ao X.T.ct w (fun b => g.own b = some r ∧ bq b = some (i, j)) ct u (V i j)) ∧
   (deep = false → ∀ (i j : Nat) (y : List U) (u : U) (ct : CT), xs[i]? = some y → y[j]? = some u → (X.T.ct e)[j]? = some ct → aC X.T.ct w (ak X w g) ct u (V i j)) := by
  cases deep with
  | true =>
   have bp : ao _ _ _ _ _ _ := bp
   generalize g.v r = v at *
   cases bp with
   | row _ _ _ _ cs V bq ho hg hV hs hh => exact ⟨cs, V, bq, ho, hg, hV, hs, fun _ => hh, fun h => by cases h⟩
  | false =>
   obtain ⟨cs, V, ho, hg, hV, hs, hh⟩ := ba.ex bp
   exact ⟨cs, V, fun _ => none, ho, fun b hb => ⟨hg b hb, rfl⟩, hV, hs, fun h => (by cases h), fun _ => hh⟩
 obtain ⟨cs, V, bq, ho, hg, hV, hs, zF, eu⟩ := cF
 obtain ⟨v', w', hG⟩ := gT cs ho
 have hB := hG.grown
 have ay : ∀ b s, g.own b = some s → b < w.heap.size := fun b s hb => h.mem.lt b (by rw [hb]; simp)
 have same : ∀ b, b < w.heap.size → (∀ c, (g.v r).ownBlock = some c → b ≠ c) → w'.heap[b]? = w.heap[b]? := fun b hb aS => hB.block b hb fun he => aS b he.symm rfl
 have ry := mY h (Nat.le_refl w.heap.size)
 let g' := g.grow r rs w.heap.size v'
 have eA : g'.v r = v' := if_pos rfl
 have ez : ∀ b, b < w.heap.size → g.own b = none → g'.own b = none := fun b hb au => Gh.uE (by omega) au
 have vz : ∀ b s, g.own b = some s → ¬ s = r → w'.heap[b]? = w.heap[b]? := fun b s hb aM => same b (ay b s hb) fun c hc => by
  rintro rfl
  have := (hg b hc).1
  rw [this] at hb
  exact aM (Option.some.inj hb).symm
 have rO : ∀ b, ak X w g b → w'.heap[b]? = w.heap[b]? := fun b hb => same b hb.2.1 fun c hc => by
  rintro rfl
  have := (hg b hc).1
  have h0 := hb.1
  rw [this] at h0; cases h0
 have fa : ∀ b, ak X w g b → ak X w' g' b := fun b hb => ⟨ez b hb.2.1 hb.1, Nat.lt_of_lt_of_le hb.2.1 hB.size, hb.2.2⟩
 have vo : bW w' e (X.T.ct e).length v' (xs ++ ys).length (cs ++ news) := by rw [List.length_append]; exact hG.own
 have ma : ∀ b, v'.ownBlock = some b → g'.own b = some r ∧ (b = w.heap.size ∨ (g.v r).ownBlock = some b) := by
  intro b hb
  rcases hG.tH with he | he
  ·rw [he] at hb
   have fA := (hg b hb).1
   have := ay b r fA
   refine ⟨?_, .inr hb⟩
   rw [show g'.own b = _ from Gh.lX (by omega) fA, if_neg cU.1]
  ·rw [he] at hb
   obtain rfl := Option.some.inj hb
   refine ⟨?_, .inl rfl⟩
   show (if w.heap.size = w.heap.size then (if v'.ownBlock = some w.heap.size then some r else none) else _) = _
   rw [if_pos rfl, if_pos he]
 have aL : cs.length = xs.length * X.T.size e := ho.1
 let V' : Nat → Nat → Value := fun i j => if i < xs.length then V i j else V2 (i - xs.length) j
 have bz : ∀ (i : Nat) (y : List U), (xs ++ ys)[i]? = some y → (i < xs.length ∧ xs[i]? = some y) ∨ (xs.length ≤ i ∧ ys[i - xs.length]? = some y) := by
  intro i y hy
  by_cases hi : i < xs.length
  ·rw [List.getElem?_append_left hi] at hy; exact .inl ⟨hi, hy⟩
  ·rw [List.getElem?_append_right (by omega)] at hy; exact .inr ⟨by omega, hy⟩
 have uI : ∀ (i j : Nat) (y : List U), (xs ++ ys)[i]? = some y → j < y.length → (cs ++ news)[i * X.T.size e + j]? = some (V' i j) := by
  intro i j y hy hj
  rcases bz i y hy with ⟨hi, hy⟩ | ⟨hi, hy⟩
  ·have fD : j < X.T.size e := by rw [hs i y hy] at hj; exact hj
   have := hQ hi fD
   rw [List.getElem?_append_left (by omega), hV i j y hy hj]
   show _ = some (if i < xs.length then _ else _)
   rw [if_pos hi]
  ·have e1 : i * X.T.size e = xs.length * X.T.size e + (i - xs.length) * X.T.size e := by rw [← Nat.add_mul]; congr 1; omega
   rw [List.getElem?_append_right (by omega), aL, show i * X.T.size e + j - xs.length * X.T.size e = (i - xs.length) * X.T.size e + j from by omega, kl _ j y hy hj]
   show _ = some (if i < xs.length then _ else _)
   rw [if_neg (by omega)]
 have vD : ∀ (i : Nat) y, (xs ++ ys)[i]? = some y → y.length = (X.T.ct e).length := by
  intro i y hy
  rcases bz i y hy with ⟨_, hy⟩ | ⟨_, hy⟩
  ·exact hs i y hy
  ·exact mI _ y hy
 have rM : ∀ rt', cr X w' rt' g' r (.row e deep (xs ++ ys)) := by
  intro rt'
  cases deep with
  | true =>
   show ao _ _ _ _ _ (g'.v r)
   rw [eA]
   let kL : Nat → Option (Nat × Nat) := fun b => match g.own b with | none => none | some s => if s ∈ rs then (lab2 b).map (fun (ij : Nat × Nat) => (ij.1 + xs.length, ij.2)) else bq b
   refine .row _ e _ v' (cs ++ news) V' kL vo (fun b hb => ?_) uI vD (fun i j y u ct hy hu ah => ?_)
   ·obtain ⟨h1, h2⟩ := ma b hb
    refine ⟨h1, ?_⟩
    show (match g.own b with | none => none | some s => if s ∈ rs then (lab2 b).map (fun (ij : Nat × Nat) => (ij.1 + xs.length, ij.2)) else bq b) = none
    rcases h2 with rfl | h2
    ·rw [ry]
    ·obtain ⟨h3, h4⟩ := hg b h2
     rw [h3]
     simp only [if_neg cU.1]
     exact h4
   ·rcases bz i y hy with ⟨hi, hy⟩ | ⟨hi, hy⟩
    ·have hv : V' i j = V i j := if_pos hi
     rw [hv]
     refine (zF rfl i j y u ct hy hu ah).imp fun b hb => ?_
     have fB := ay b r hb.1
     refine ⟨⟨by rw [show g'.own b = _ from Gh.lX (by omega) hb.1, if_neg cU.1], ?_⟩, same b fB fun c hc => ?_⟩
     ·show (match g.own b with | none => none | some s => if s ∈ rs then (lab2 b).map (fun (ij : Nat × Nat) => (ij.1 + xs.length, ij.2)) else bq b) = _
      rw [hb.1]
      simp only [if_neg cU.1]
      exact hb.2
     ·rintro rfl
      have := (hg b hc).2
      rw [this] at hb; cases hb.2
    ·have hv : V' i j = V2 (i - xs.length) j := if_neg (by omega)
     rw [hv]
     refine (zo rfl (i - xs.length) j y u ct hy hu ah).imp fun b hb => ?_
     obtain ⟨⟨s, aM, fA⟩, aO⟩ := hb
     have fB := ay b s fA
     have rR : ¬ s = r := by rintro rfl; exact cU.1 aM
     refine ⟨⟨by rw [show g'.own b = _ from Gh.lX (by omega) fA, if_pos aM], ?_⟩, vz b s fA rR⟩
     show (match g.own b with | none => none | some s => if s ∈ rs then (lab2 b).map (fun (ij : Nat × Nat) => (ij.1 + xs.length, ij.2)) else bq b) = _
     rw [fA]
     simp only [if_pos aM, aO, Option.map_some, Option.some.injEq, Prod.mk.injEq, and_true]
     omega
  | false =>
   show ba _ _ _ _ _ _ (g'.v r)
   rw [eA]
   refine ⟨cs ++ news, V', vo, fun b hb => (ma b hb).1, uI, vD, fun i j y u ct hy hu ah => ?_⟩
   rcases bz i y hy with ⟨hi, hy⟩ | ⟨hi, hy⟩
   ·have hv : V' i j = V i j := if_pos hi
    rw [hv]
    exact (eu rfl i j y u ct hy hu ah).imp fun b hb => ⟨fa b hb, rO b hb⟩
   ·have hv : V' i j = V2 (i - xs.length) j := if_neg (by omega)
    rw [hv]
    exact (dW rfl (i - xs.length) j y u ct hy hu ah).imp fun b hb => ⟨fa b hb, rO b hb⟩
 have hK : bJ X (fun s => s = r ∨ s ∈ rs) (fun s => s = r ∧ false = true) w g ((st.consume rs).af r false).rt w' g' (((st.consume rs).af r false).aJ r (.row e deep (xs ++ ys))).rt := by
  refine ⟨fun b hb => ⟨fa b hb, rO b hb⟩, fun b s aM hb => ?_, fun s _ aM => ?_, fun s e' d' zs aM aG => ?_, fun s t' cs' hb => ⟨rfl, cs', ?_⟩, fun s aM => by simp at aM⟩
  ·simp only [not_or] at aM
   have := ay b s hb
   exact ⟨by rw [show g'.own b = _ from Gh.lX (by omega) hb, if_neg aM.2], vz b s hb aM.1⟩
  ·simp only [not_or] at aM
   show (if s = r then v' else g.v s) = _
   rw [if_neg aM.1]
  ·simp only [not_or] at aM
   rw [bt, if_neg (fun he => aM.1 he.symm)]; exact aG
  ·rw [bt, if_neg]
   ·exact hb
   ·rintro rfl
    rw [cp, gS] at hb; cases hb
 have rz : ∀ b s, g'.own b = some s → b < w'.heap.size ∧ s < st.rt.length ∧ (X.nw b ∨ (s < X.np ∧ X.po b = some s)) := by
  intro b s hb
  by_cases hbe : b = w.heap.size
  ·subst hbe
   have aO : (if v'.ownBlock = some w.heap.size then some r else none) = some s := by
    have : g'.own w.heap.size = (if v'.ownBlock = some w.heap.size then some r else none) := if_pos rfl
    rw [← this]; exact hb
   split at aO
   ·rename_i Ah
    cases aO
    exact ⟨wv hG.own w.heap.size Ah, aA hr, .inl (h.mem.n0 _ (Nat.le_refl _))⟩
   ·cases aO
  ·cases hx : g.own b with
   | none => rw [show g'.own b = none from Gh.uE hbe hx] at hb; cases hb
   | some s' =>
    rw [show g'.own b = _ from Gh.lX hbe hx] at hb
    have h8 := h.mem.pm b s' hx
    have h9 := ay b s' hx
    split at hb
    ·rename_i hm
     have := (jC s' hm).2
     cases hb
     rw [h.mem.np] at this
     exact ⟨Nat.lt_of_lt_of_le h9 hB.size, aA hr, by exact .inl (h8.resolve_right fun hh => by omega)⟩
    ·cases hb; exact ⟨Nat.lt_of_lt_of_le h9 hB.size, h.mem.ob b _ hx, h8⟩
 refine ⟨v', w', g', hG.run, ?_, eA⟩
 refine h6.change r false (Q := fun s => s ∈ rs) (qz (nP rs (St.eF st))) (fun s z aM _ hz => by rw [lQ rs iU mA aM] at hz; exact (Option.some.inj hz).symm) _ hK (rM _) (fun b hb => ?_) (fun b s hb => ?_) hB.size (fun b s hb => (rz b s hb).2.2) (fun s aM => ?_)
  ⟨hB.os.trans h.fr.os, hB.tape.trans h.fr.tape, hB.output.trans h.fr.output, Nat.le_trans h.fr.size hB.size, fun b hb bk => ?_⟩
 ·cases hx : g'.own b with
  | none => exact absurd hx hb
  | some s => exact (rz b s hx).1
 ·rw [jl]; exact (rz b s hb).2.1
 ·show (if s = r then v' else g.v s) = _
  rw [h.mem.np] at aY
  rw [if_neg (by omega)]; exact h.mem.pv s aM
 ·obtain ⟨e1, e2⟩ := h.fr.block b hb bk
  have fB := Nat.lt_of_lt_of_le hb h.fr.size
  refine ⟨ez b fB e1, (same b fB fun c hc => ?_).trans e2⟩
  rintro rfl
  rw [(hg b hc).1] at e1; cases e1
end
end Go.Proofs.YtbanfmadialnkaaGreat.Eng
namespace Go.Proofs.YtbanfmadialnkaaGreat.Eng
open Go.RowKit
set_option linter.unusedVariables false
section
variable {P : Program} {X : Ctx} {own0 : Nat → Option Nat} {w0 : World} {st : St} {a : Act} {w w' : World} {g g' : Gh} {R : Type}
structure Src (w : World) (size : Nat) (xv : Value) (m : Nat) (news : List Value) : Prop where
 ex : ∃ A c, xv = .slice A m c ∧ (∀ ad, A = some ad → ∀ (j : Nat) u, news[j]? = some u → w.cell? (ad.add j) = some u) ∧ (A = none → m = 0)
 len : news.length = m * size
 one : ∀ u ∈ news, u.oneCell' = true
theorem Src.lW (hT : aU P X.T) {t ty e : TypeId} (hd : (X.T.row t).d = .one (.aq e)) (hk : (X.T.row e).d.known = true) (cj : X.T.size e ≠ 0) {v xv : Value} {n m : Nat} {cs news : List Value} (hs : Src w (X.T.size e) xv m news)
  (ho : bW w e (X.T.size e) v n cs) (aZ : room (n + m) (X.T.row e).bytes = true) : ∃ v' w', tp P w t ty e (X.T.size e) v xv v' w' cs news n m := by
 obtain ⟨i, desc, h1, h2, h3, h4, h5, h6⟩ := hT.ok e hk
 obtain ⟨A, c, rfl, hc, hz⟩ := hs.ex
 have hr := of_decide_eq_true aZ
 have vF : (X.T.row e).zero.cells.size = X.T.size e := by
  rw [fu.nv hT]
  simp [aw.size, aw.ct]
 cases A with
 | none =>
  obtain rfl := hz rfl
  have zQ : news = [] := List.eq_nil_of_length_eq_zero (by simpa using hs.len)
  subst zQ
  refine ⟨v, w, ?_, by simpa using ho, ⟨rfl, rfl, rfl, Nat.le_refl _, fun _ _ _ => rfl⟩, .inl rfl, ho⟩
  obtain ⟨B, cc, rfl, hle, _⟩ := fi ho
  cases B with
  | none => simp [Builtin.append_, run_underlying (eD hT hd), run_sizeOf hT hk, Builtin.lenOf, Builtin.firstCells, hle]
  | some bb => simp [Builtin.append_, run_underlying (eD hT hd), run_sizeOf hT hk, Builtin.lenOf, Builtin.firstCells, hle, storeCells]
 | some ad =>
  rcases ho.2 with ⟨rfl, rfl⟩ | ⟨b, q, cap, cur, rfl, hg, jy, js, bB, iV⟩
  ·obtain rfl : cs = [] := List.eq_nil_of_length_eq_zero (by simpa using ho.1)
   obtain ⟨v', w', q1, q2, q3, q4, q5⟩ := run_append_own_at (P := P) w 0 t ty e i (X.T.row e).zero (X.T.size e) (X.T.row e).bytes (eD hT hd) h1 h5 h3 h4 vF (Nat.pos_of_ne_zero cj) _ 0 [] (World.ownsRow_nil w 0 e _) ad m c news hs.len (hc ad rfl) hs.one hr.2 hr.1 (Nat.zero_le _)
   exact ⟨v', w', q1, .of q2, q3, q5, by simp, .inl ⟨rfl, rfl⟩⟩
  ·have mg : cs.length = n * X.T.size e := ho.1
   have oy := hs.len
   have hlen : (cs ++ news).length = (n + m) * X.T.size e := by rw [List.length_append, mg, oy, Nat.add_mul]
   have aL : cur.toList.length = cur.size := Array.length_toList
   by_cases kH : n + m ≤ cap
   ·have zx : (n + m) * X.T.size e ≤ cap * X.T.size e := Nat.mul_le_mul_right _ kH
    rw [Nat.add_mul] at zx
    have hf := run_firstCells_some (P := P) w i.size m ad m c news (by rw [h3]; exact oy) (hc ad rfl)
    have kI := run_storeCells_at P b (q + n * i.size) e news 0 cur w hg (by rw [h3]; omega) hs.one
    simp only [Nat.add_zero] at kI
    have gT : (Builtin.append_ #[t, t] ty #[.slice (some ⟨b, q, none⟩) n cap, .slice (some ad) m c]).run P w = .ok (.slice (some ⟨b, q, none⟩) (n + m) cap) (w.setRow b (cur.toList.take (q + n * i.size) ++ news ++ cur.toList.drop (q + n * i.size + news.length)).toArray) := by
     simp [Builtin.append_, run_underlying (eD hT hd), sizeOf, typeInfo, h1, Builtin.lenOf, kH, hf, Addr.add_lit, kI]
    refine ⟨_, _, gT, ⟨hlen, .inr ⟨b, q, cap, _, rfl, setRow_heap w b cur _ e _ hg, kH, js, ?_, ?_⟩⟩, ⟨rfl, rfl, rfl, by simp, fun k bd => setRow_other w b k _ ∘ fun aS e => aS (by simp [Value.ownBlock, e])⟩, .inl rfl, ⟨mg, .inr ⟨b, q, cap, _, rfl, setRow_heap w b cur _ e _ hg, jy, js, ?_, ?_⟩⟩⟩
    ·rw [h3]
     simp only [List.size_toArray, List.length_append, List.length_take, List.length_drop, aL]
     omega
    ·rw [h3, ← hlen, ← iV]
     have e1 : q ≤ (cur.toList.take (q + n * X.T.size e)).length := by rw [List.length_take, aL]; omega
     have e2 : (cur.toList.take (q + n * X.T.size e)).drop q = (cur.toList.drop q).take (n * X.T.size e) := by rw [List.drop_take]; congr 1; omega
     rw [List.append_assoc, List.drop_append_of_le_length e1, e2, ← List.append_assoc]
     exact List.take_left
    ·rw [h3]
     simp only [List.size_toArray, List.length_append, List.length_take, List.length_drop, aL]
     omega
    ·rw [h3]
     have e1 : q ≤ (cur.toList.take (q + n * X.T.size e)).length := by rw [List.length_take, aL]; omega
     have e2 : (cur.toList.take (q + n * X.T.size e)).drop q = (cur.toList.drop q).take (n * X.T.size e) := by rw [List.drop_take]; congr 1; omega
     rw [List.append_assoc, List.drop_append_of_le_length e1, e2, iV, ← mg]
     exact List.take_left
   ·have hold : ∀ j u, cs[j]? = some u → w.cell? (Addr.add ⟨b, q, none⟩ j) = some u := fun j u hu => by
     rw [Addr.add_lit]; exact hX ho hu
    have zC := run_append_grow (P := P) w t ty e i (X.T.row e).zero (eD hT hd) h1 h5 ⟨b, q, none⟩ n cap cs (by rw [h3]; exact mg) hold ad m c news (by rw [h3]; exact oy) (hc ad rfl) (by omega) (by omega) (growslice_fits (by omega) (by rw [h4]; exact hr.1))
    have qV := grownCap_ge w (n + m) cap e
    have zi : grownCap w (n + m) cap e ≤ maxLen := grownCap_le_maxLen w (n + m) cap e (by simp only [maxLen]; omega)
    refine ⟨_, _, zC, bW.of (base := 0) ⟨hlen, .inr ⟨w.heap.size, _, _, rfl, Nat.zero_le _, heap_alloc_new w.drew _, qV, zi, ?_, ?_⟩⟩, ⟨rfl, rfl, rfl, by simp, fun k bd _ => heap_alloc_old w.drew _ k bd⟩, .inr rfl, kV ho fun k bd => ?_⟩
    ·simp only [Array.size_append, List.size_toArray, size_zeroCells, vF, mg, oy, ← Nat.add_mul]
     congr 1
     omega
    ·simp only [Array.toList_append, List.append_assoc]
     rw [← List.append_assoc, ← hlen]
     exact List.take_left
    ·simp only [Value.ownBlock, Option.some.injEq] at bd
     subst bd
     exact heap_alloc_old w.drew _ b (Array.getElem?_eq_some_iff.1 hg).1
def fY (V : Nat → Nat → Value) (size n : Nat) : List Value := (List.range (n * size)).map fun k => V (k / size) (k % size)
theorem qx {V : Nat → Nat → Value} {size n i j : Nat} (hi : i < n) (hj : j < size) : (fY V size n)[i * size + j]? = some (V i j) := by
 have h1 := hQ hi hj
 simp only [fY, List.getElem?_map, List.getElem?_range h1, Option.map_some, Option.some.injEq]
 rw [Nat.mul_comm i size, Nat.mul_add_div (by omega), Nat.div_eq_of_lt hj, Nat.mul_add_mod, Nat.mod_eq_of_lt hj, Nat.add_zero]
theorem Src.sF {ok : Nat → Prop} {e : TypeId} {ys : List (List U)} {xv : Value} (cj : X.T.size e ≠ 0) (h : aC X.T.ct w ok (.aq e) (.lst ys) xv) : ∃ V : Nat → Nat → Value, Src w (X.T.size e) xv ys.length (fY V (X.T.size e) ys.length) ∧
  (∀ (i : Nat) y, ys[i]? = some y → y.length = (X.T.ct e).length) ∧ ∀ (i j : Nat) (y : List U) (u : U) (ct : CT), ys[i]? = some y → y[j]? = some u → (X.T.ct e)[j]? = some ct → aC X.T.ct w ok ct u (V i j) := by
 cases h with
 | aq e xs A c V hl hm hA hs h =>
  have fI := Nat.pos_of_ne_zero cj
  have split : ∀ k, k < ys.length * X.T.size e → k / X.T.size e < ys.length ∧ k % X.T.size e < X.T.size e := fun k hk => ⟨Nat.div_lt_of_lt_mul (by rw [Nat.mul_comm]; exact hk), Nat.mod_lt _ fI⟩
  have tV : ∀ (k : Nat) u, (fY V (X.T.size e) ys.length)[k]? = some u → k < ys.length * X.T.size e ∧ u = V (k / X.T.size e) (k % X.T.size e) := by
   intro k u hu
   have hk : k < ys.length * X.T.size e := by have := aA hu; simpa [fY] using this
   simp only [fY, List.getElem?_map, List.getElem?_range hk, Option.map_some, Option.some.injEq] at hu
   exact ⟨hk, hu.symm⟩
  refine ⟨V, ⟨⟨A, c, rfl, fun ad qE j u hu => ?_, fun hn => ?_⟩, by simp [fY], fun u hu => ?_⟩, hs, h⟩
  ·obtain ⟨hk, rfl⟩ := tV j u hu
   obtain ⟨h1, h2⟩ := split j hk
   obtain ⟨b, o, hb, _, hc⟩ := hA (Nat.lt_of_le_of_lt (Nat.zero_le _) h1)
   rw [qE] at hb
   obtain rfl := Option.some.inj hb
   have hy := eG (d := []) h1
   have := hc _ (j % X.T.size e) _ hy (by rw [hs _ _ hy]; exact h2)
   rw [Addr.add_lit, ← this]
   congr 2
   rw [show (X.T.ct e).length = X.T.size e from rfl, Nat.mul_comm]
   have := Nat.div_add_mod j (X.T.size e)
   omega
  ·refine Nat.eq_zero_of_not_pos fun hp => ?_
   obtain ⟨b, o, hb, _⟩ := hA hp
   rw [hn] at hb; cases hb
  ·obtain ⟨k, hk⟩ := List.getElem?_of_mem hu
   obtain ⟨bd, rfl⟩ := tV k u hk
   obtain ⟨h1, h2⟩ := split k bd
   have hy := eG (d := []) h1
   have jF : (ys.getD (k / X.T.size e) []).length = (X.T.ct e).length := hs _ _ hy
   exact (h _ _ _ _ _ hy (eG (d := U0) (by rw [jF]; exact h2)) (List.getElem?_eq_getElem (show k % X.T.size e < (X.T.ct e).length from h2))).one
theorem Src.we {e : TypeId} {ys : List (List U)} {v : Value} {cs : List Value} {V : Nat → Nat → Value} (cj : X.T.size e ≠ 0) (hO : bW w e (X.T.ct e).length v ys.length cs) (aN : ∀ (i : Nat) y, ys[i]? = some y → y.length = (X.T.ct e).length)
  (hV : ∀ (i j : Nat) (y : List U), ys[i]? = some y → j < y.length → cs[i * (X.T.ct e).length + j]? = some (V i j)) (h1 : ∀ (i j : Nat) (y : List U) (u : U) (ct : CT), ys[i]? = some y → y[j]? = some u → (X.T.ct e)[j]? = some ct → (V i j).oneCell' = true) : Src w (X.T.size e) v ys.length cs := by
 obtain ⟨A, c, rfl, _⟩ := fi hO
 refine ⟨⟨A, c, rfl, fun ad qE j u hu => ?_, fun hA => ?_⟩, hO.1, fun u hu => ?_⟩
 ·subst qE
  have zY : ∃ b q, ad = ⟨b, q, none⟩ := by
   rcases hO.2 with ⟨hh, _⟩ | ⟨b, q, cap, cur, hh, _⟩
   ·cases hh
   ·cases hh; exact ⟨b, q, rfl⟩
  obtain ⟨b, q, rfl⟩ := zY
  rw [Addr.add_lit]
  exact hX hO hu
 ·refine Nat.eq_zero_of_not_pos fun hp => ?_
  obtain ⟨b, q, cc, hh⟩ := kW hO hp
  cases hh; cases hA
 ·obtain ⟨k, bd⟩ := List.getElem?_of_mem hu
  have eZ := aA bd
  have zK : k < ys.length * X.T.size e := by
   have h9 : cs.length = ys.length * X.T.size e := hO.1
   omega
  have fI := Nat.pos_of_ne_zero cj
  have i1 : k / X.T.size e < ys.length := Nat.div_lt_of_lt_mul (by rw [Nat.mul_comm]; exact zK)
  have i2 : k % X.T.size e < X.T.size e := Nat.mod_lt _ fI
  have hy := eG (d := []) i1
  have gW := aN _ _ hy
  have i3 : (ys.getD (k / X.T.size e) [])[k % X.T.size e]? = some ((ys.getD (k / X.T.size e) []).getD (k % X.T.size e) U0) := eG (by rw [gW]; exact i2)
  have i4 := hV _ (k % X.T.size e) _ hy (aA i3)
  have i5 : k / X.T.size e * (X.T.ct e).length + k % X.T.size e = k := by
   rw [show (X.T.ct e).length = X.T.size e from rfl, Nat.mul_comm]; exact Nat.div_add_mod k _
  rw [i5, bd] at i4
  rw [Option.some.inj i4]
  exact h1 _ _ _ _ _ hy i3 (List.getElem?_eq_getElem (show k % X.T.size e < (X.T.ct e).length from i2))
theorem Rel.nD (h : Rel X own0 w0 st a w g) (e : TypeId) : Rel X own0 w0 (st.add (.row e true [])) a w ⟨g.own, fun s => if s = st.rt.length then .slice none 0 0 else g.v s, g.b⟩ := by
 refine h.add _ (fun b hb => ⟨hb, rfl⟩) (fun b r hb => ⟨hb, rfl⟩) (fun r hr => ⟨if_neg (by omega), rfl⟩) ?_ h.mem.lt (fun b s hb => by have := h.mem.ob b s hb; omega) (Nat.le_refl _) h.mem.pm ⟨h.fr.os, h.fr.tape, h.fr.output, h.fr.size, h.fr.block⟩
 show ao _ _ _ _ _ (if st.rt.length = st.rt.length then _ else _)
 rw [if_pos rfl]
 exact ao.nil e
theorem pK {e : TypeId} : az X w (st.add (.row e true [])).rt ⟨g.own, fun s => if s = st.rt.length then .slice none 0 0 else g.v s, g.b⟩ (.c (.al st.rt.length [] e)) (.slice none 0 0) := by
 refine ⟨e, true, [], by show (st.rt ++ [_])[st.rt.length]? = _; simp, .inl rfl, ?_⟩
 show At _ _ _ _ (if st.rt.length = st.rt.length then _ else _) _ _ _ _
 rw [if_pos rfl]
 exact .nil _ _ _
theorem gE {ai : List CT} (h : kj ai = true) {j : Nat} {ct : CT} (hj : ai[j]? = some ct) : ct.eB = false := by
 have := List.all_eq_true.1 h ct (List.mem_of_getElem? hj)
 simpa using this
theorem aC.qw {T : bg} {ok : Nat → Prop} {ct : CT} {u : U} {v : Value} (h : aC T w ok ct u v) (hf : ct.eB = false) (F : Nat → Prop) : ao T w F ct u v := by
 cases h with
 | int k n => exact .int _ k n
 | bool b => exact .bool _ b
 | str s => exact .str _ s
 | aq => cases hf
theorem aC.uA {T : bg} {ok : Nat → Prop} {ct : CT} {u : U} {v : Value} (h : aC T w ok ct u v) (hf : ct.eB = false) (AU : Nat → Prop) : aC T w AU ct u v := by
 cases h with
 | int k n => exact .int k n
 | bool b => exact .bool b
 | str s => exact .str s
 | aq => cases hf
theorem um {T : aw} {t e : TypeId} (hd : T.elem t = some e) : (T.row t).d = .one (.aq e) := by
 unfold aw.elem TD.elem at hd
 split at hd
 ·rename_i e' he; rw [he]; cases hd; rfl
 ·cases hd
theorem tF (hT : aU P X.T) (h : Rel X own0 w0 st a w g) {o : Oper} {t t2 : TypeId} {s x : Operand} (ho : o.op = .call ⟨.builtin .append, #[s, x], #[t, t2]⟩) {K : St → Option R} {rr : R} (hq : dE X.T st t t2 (ev st s) (ev st x) o.dst K = some rr) :
  ∃ ab, K ab = some rr ∧ bm P X own0 w0 o a w ab := by
 unfold dE at hq
 split at hq
 ·rename_i e di
  have hd := um di
  split at hq
  ·rename_i hh
   obtain ⟨hk, cj, rfl⟩ := hh
   have hs := aX h s
   split at hq
   ·rename_i aD r hb
    
    have zc : ∃ g1, Rel X own0 w0 aD a w g1 ∧ a.eval s = g1.v r ∧ ev aD x = ev st x := by
     unfold lM at hb
     split at hb
     ·rename_i hz
      rw [hz] at hs
      cases hb
      have hs : a.eval s = .slice none 0 0 := hs
      exact ⟨_, h.nD e, by rw [hs]; exact (if_pos rfl).symm, by cases x <;> rfl⟩
     ·rename_i r' e' hz
      rw [hz] at hs
      split at hb
      ·cases hb
       obtain ⟨e0, d, zs, q1, _, q3⟩ := hs
       obtain ⟨-, -, q4⟩ := q3.cC
       exact ⟨g, h, q4, rfl⟩
      ·cases hb
     ·cases hb
    obtain ⟨g1, h1, bI, zt⟩ := zc
    have hx := aX h1 x
    rw [zt] at hx
    generalize ev st x = sx at *
    have la : ∀ {v' w'}, (Builtin.append_ #[t2, t2] o.type #[g1.v r, a.eval x]).run P w = .ok v' w' → (execOp a.eval o).run P w = .ok (.value v') w' := by
     intro v' w' hr
     simp [execOp, ho, resolve, invoke, builtin, bI, hr]
    split at hq
    ·rename_i e0 deep xs hr
     split at hq
     ·rename_i hh
      obtain ⟨rfl, aY⟩ := hh
      have ay := aA hr
      
      have fin : ∀ {rs : List Nat} {ys : List (List U)}, (∀ v' w' g', (Builtin.append_ #[t2, t2] o.type #[g1.v r, a.eval x]).run P w = .ok v' w' → Rel X own0 w0 (((aD.consume rs).af r false).aJ r (.row e0 deep (xs ++ ys))) a w' g' → g'.v r = v' →
        bm P X own0 w0 o a w ((((aD.consume rs).af r false).aJ r (.row e0 deep (xs ++ ys))).put o.dst (.c (.al r [] e0)))) := by
       intro rs ys v' w' g' q1 q2 q3
       refine bm.value (la q1) (q2.put o.dst (az.cE ⟨e0, deep, xs ++ ys, ?_, .inl rfl, ?_⟩))
       ·rw [bt, if_pos rfl, if_pos]
        show r < ((aD.consume rs).rt.map _).length
        rw [List.length_map, jl]; exact ay
       ·rw [q3]; exact .nil _ _ _
      split at hq
      ·rename_i gd
       split at hq
       ·rename_i e' ys cw
        split at hq
        ·rename_i aR
         subst aR
         cases aZ : room (xs.length + ys.length) (X.T.row e').bytes with
         | false => rw [aZ] at hq; cases hq
         | true =>
          rw [aZ] at hq
          have hR : ∃ ok : Nat → Prop, aC X.T.ct w ok (.aq e') (.lst ys) (a.eval x) := by
           split at cw
           ·cases cw
            have hx : a.eval x = .slice none 0 0 := hx
            exact ⟨fun _ => True, by rw [hx]; exact aC.nil e' 0 none⟩
           ·unfold lq at cw
            split at cw
            ·cases cw; exact ⟨_, hx⟩
            ·rename_i r2 p e2
             split at cw
             ·rename_i e3 d3 zs dW
              cases cw
              obtain ⟨e4, d4, nx, q1, q2⟩ := aE.fT h1.mem hx
              obtain ⟨rfl, rfl, rfl⟩ : e3 = e4 ∧ d3 = d4 ∧ zs = nx := by rw [dW] at q1; cases q1; exact ⟨rfl, rfl, rfl⟩
              exact ⟨fun _ => True, q2 _ (fun _ _ => trivial) (fun _ _ => trivial)⟩
             ·cases cw
            ·cases cw
          obtain ⟨ok, hR⟩ := hR
          obtain ⟨V, q1, q2, q3⟩ := Src.sF cj hR
          obtain ⟨v', w', g', q4, q5, q6⟩ := h1.nH (P := P) hr aY (rs := []) (fun _ aM => by simp at aM) rfl (t := t2) (ty := o.type) (x := a.eval x) (news := fY V (X.T.size e') ys.length) (V2 := V) (lab2 := fun _ => none) q2
           (fun i j y hy hj => qx (aA hy) (by rw [q2 i y hy] at hj; exact hj)) (fun _ i j y u ct hy hu ah => (q3 i j y u ct hy hu ah).qw (gE gd ah) _) (fun _ i j y u ct hy hu ah => (q3 i j y u ct hy hu ah).uA (gE gd ah) _)
           (fun cs bB => q1.lW hT hd hk cj bB aZ)
          exact ⟨_, hq, fin v' w' g' q4 q5 q6⟩
        ·cases hq
       ·cases hq
      ·split at hq
       ·rename_i r2 e2
        split at hq
        ·rename_i ej ys dW
         split at hq
         ·rename_i hh
          obtain ⟨rfl, rfl, aS, zR⟩ := hh
          cases aZ : room (xs.length + ys.length) (X.T.row e2).bytes with
          | false => rw [aZ] at hq; cases hq
          | true =>
           rw [aZ] at hq
           have bp : ao _ _ _ _ _ _ := h1.mem.rt r2 _ dW
           obtain ⟨e4, d4, nx, q1, q2, q3⟩ := hx
           obtain ⟨-, -, q4⟩ := q3.cC
           rw [← q4] at bp
           generalize a.eval x = xv at *
           cases bp with
           | row _ _ _ _ cs V bq hO hg hV aN hh =>
            have cw := Src.we cj hO aN hV fun i j y u ct hy hu ah => (hh i j y u ct hy hu ah).one
            obtain ⟨v', w', g', q5, q6, q7⟩ := h1.nH (P := P) hr aY (rs := [r2]) (fun s' aM => by rw [List.mem_singleton.1 aM]; exact ⟨⟨_, _, _, dW⟩, zR⟩) (by simp [cD]; exact fun he => aS he.symm) (t := t2) (ty := o.type) (x := xv) (news := cs) (V2 := V) (lab2 := bq) aN hV
             (fun _ i j y u ct hy hu ah => (hh i j y u ct hy hu ah).mono fun b hb => ⟨⟨r2, by simp, hb.1⟩, hb.2⟩) (fun hf => by cases hf) (fun cs' bB => cw.lW hT hd hk cj bB aZ)
            exact ⟨_, hq, fin v' w' g' q5 q6 q7⟩
         ·cases hq
        ·cases hq
       ·rename_i e2 ys
        split at hq
        ·rename_i cJ
         subst cJ
         cases aZ : room (xs.length + ys.length) (X.T.row e2).bytes with
         | false => rw [aZ] at hq; cases hq
         | true =>
          rw [aZ] at hq
          obtain ⟨V, q1, q2, q3⟩ := Src.sF cj hx
          obtain ⟨v', w', g', q4, q5, q6⟩ := h1.nH (P := P) hr aY (rs := []) (fun _ aM => by simp at aM) rfl (t := t2) (ty := o.type) (x := a.eval x) (news := fY V (X.T.size e2) ys.length) (V2 := V) (lab2 := fun _ => none) q2
           (fun i j y hy hj => qx (aA hy) (by rw [q2 i y hy] at hj; exact hj)) (fun hf => by cases hf) (fun _ => q3) (fun cs bB => q1.lW hT hd hk cj bB aZ)
          exact ⟨_, hq, fin v' w' g' q4 q5 q6⟩
        ·cases hq
       ·rename_i r2 e2
        split at hq
        ·rename_i ej ys dW
         split at hq
         ·rename_i hh
          obtain ⟨rfl, rfl, aS⟩ := hh
          cases aZ : room (xs.length + ys.length) (X.T.row e2).bytes with
          | false => rw [aZ] at hq; cases hq
          | true =>
           rw [aZ] at hq
           have bp : ba _ _ _ _ _ _ _ := h1.mem.rt r2 _ dW
           obtain ⟨e4, d4, nx, q1, q2, q3⟩ := hx
           obtain ⟨-, -, q4⟩ := q3.cC
           rw [← q4] at bp
           obtain ⟨cs, V, hO, hg, hV, aN, hh⟩ := bp.ex
           have cw := Src.we cj hO aN hV fun i j y u ct hy hu ah => (hh i j y u ct hy hu ah).one
           obtain ⟨v', w', g', q5, q6, q7⟩ := h1.nH (P := P) hr aY (rs := []) (fun _ aM => by simp at aM) rfl (t := t2) (ty := o.type) (x := a.eval x) (news := cs) (V2 := V) (lab2 := fun _ => none) aN hV
            (fun hf => by cases hf) (fun _ => hh) (fun cs' bB => cw.lW hT hd hk cj bB aZ)
           exact ⟨_, hq, fin v' w' g' q5 q6 q7⟩
         ·cases hq
        ·cases hq
       ·cases hq
     ·cases hq
    ·cases hq
   ·cases hq
  ·cases hq
 ·cases hq
end
end Go.Proofs.YtbanfmadialnkaaGreat.Eng
/- half -/
